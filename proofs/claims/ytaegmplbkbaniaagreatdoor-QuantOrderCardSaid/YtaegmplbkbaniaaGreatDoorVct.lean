import Derived.Test.YtaegmplbkbaniaaGreatDoorOwn
import Derived.Test.YtaegmplbkbaniaaGreatDoorMay
/-
  fieldfarelaw7.Vec, Vecs in the machine: what they make. No condition.
-/
set_option linter.all false
namespace Go.Proofs.YtaegmplbkbaniaaGreatDoor
open Go
attribute [local irreducible] VO VC VD VD1 V1 nx nd ndr sq cIf gO oQ oP oA oC oV oIf oB fin rd' outB WC WF WO WD W1
set_option maxRecDepth 100000
/-! ### 33 -/
abbrev r33_0 : List Lo := [
  ⟨(some 4), (.p (.mv (.c (.slice none 0 0)))), none⟩]
abbrev r33_1 : List Lo := [
  ⟨(some 7), (.p (.mv (.t 1))), none⟩,
  ⟨(some 8), (.a (.mksl 38 (.t 7) (.t 7))), none⟩,
  ⟨(some 5), (.p (.mv (.t 8))), none⟩]
abbrev r33_2 : List Lo := [
  ⟨(some 6), (.p (.mv (.c (.int .i64 0)))), none⟩]
abbrev r33_3 : List Lo := [
  ⟨(some 9), (.p (.mv (.t 6))), none⟩,
  ⟨(some 10), (.p (.mv (.t 1))), none⟩,
  ⟨(some 11), (.p (.bin .lss 3 (.t 9) (.t 10))), none⟩,
  ⟨(some 12), (.p (.mv (.t 11))), none⟩,
  ⟨(some 13), (.p (.mv (.t 6))), (some (12, true))⟩,
  ⟨(some 14), (.p (.mv (.t 0))), (some (12, true))⟩,
  ⟨(some 15), (.p (.len 38 (.t 14))), (some (12, true))⟩,
  ⟨(some 16), (.p (.bin .lss 3 (.t 13) (.t 15))), (some (12, true))⟩,
  ⟨(some 17), (.p (.pick (.t 12) (.t 16) (.c (.bool false)))), none⟩]
abbrev r33_4 : List Lo := [
  ⟨(some 20), (.p (.mv (.t 5))), none⟩,
  ⟨(some 21), (.p (.mv (.t 6))), none⟩,
  ⟨(some 22), (.p (.mv (.t 0))), none⟩,
  ⟨(some 23), (.p (.mv (.t 6))), none⟩,
  ⟨(some 24), (.p (.iadr 38 (.t 22) (.t 23))), none⟩,
  ⟨(some 25), (.r (.load 21 (.t 24))), none⟩,
  ⟨(some 26), (.p (.mn [(.t 25), (.c (.int .i32 1048576))])), none⟩,
  ⟨(some 27), (.p (.mx [(.c (.int .i32 (-1048576))), (.t 26)])), none⟩,
  ⟨(some 28), (.p (.iadr 38 (.t 20) (.t 21))), none⟩,
  ⟨none, (.e (.store 21 (.t 28) (.t 27))), none⟩]
abbrev r33_5 : List Lo := [
  ⟨(some 18), (.p (.mv (.t 6))), none⟩,
  ⟨(some 19), (.p (.bin .add 3 (.t 18) (.c (.int .i64 1)))), none⟩,
  ⟨(some 6), (.p (.mv (.t 19))), none⟩]
def l33_6 : Ac := (.seq (.seq (.reg r33_3) (.cond (.t 17) .skip (.exit 0))) (.seq (.blk 1 (.reg r33_4)) (.reg r33_5)))
abbrev r33_7 : List Lo := [
  ⟨(some 29), (.p (.mv (.t 5))), none⟩,
  ⟨(some 4), (.p (.mv (.t 29))), none⟩]
def c33 : AFun := ⟨(.seq (.reg r33_0) (.seq (.reg r33_1) (.seq (.seq (.reg r33_2) (.blk 0 (.loop l33_6))) (.seq (.reg r33_7) .ret)))), [.t 4], 30⟩
theorem p33 : progOf Tryz.prog 33 = some c33 := by kernel_rfl
/-! ### 28 -/
abbrev r28_0 : List Lo := [
  ⟨(some 6), (.p (.mv (.c (.slice none 0 0)))), none⟩]
abbrev r28_1 : List Lo := [
  ⟨(some 7), (.p (.mv (.c (.slice none 0 0)))), none⟩]
abbrev r28_2 : List Lo := [
  ⟨(some 8), (.p (.mv (.c (.int .i64 0)))), none⟩]
abbrev r28_3 : List Lo := [
  ⟨(some 9), (.p (.mv (.t 8))), none⟩,
  ⟨(some 10), (.p (.mv (.t 0))), none⟩,
  ⟨(some 11), (.p (.len 36 (.t 10))), none⟩,
  ⟨(some 12), (.p (.bin .lss 3 (.t 9) (.t 11))), none⟩,
  ⟨(some 13), (.p (.mv (.t 12))), none⟩,
  ⟨(some 14), (.p (.mv (.t 8))), (some (13, true))⟩,
  ⟨(some 15), (.p (.mv (.t 2))), (some (13, true))⟩,
  ⟨(some 16), (.p (.bin .lss 3 (.t 14) (.t 15))), (some (13, true))⟩,
  ⟨(some 17), (.p (.pick (.t 13) (.t 16) (.c (.bool false)))), none⟩]
abbrev r28_4 : List Lo := [
  ⟨(some 20), (.p (.mv (.t 7))), none⟩,
  ⟨(some 21), (.p (.mv (.t 0))), none⟩,
  ⟨(some 22), (.p (.mv (.t 8))), none⟩,
  ⟨(some 23), (.p (.iadr 36 (.t 21) (.t 22))), none⟩,
  ⟨(some 24), (.r (.load 38 (.t 23))), none⟩,
  ⟨(some 25), (.p (.mv (.t 1))), none⟩,
  ⟨(some 26), (.call (.f 33) [(.t 24), (.t 25)]), none⟩,
  ⟨(some 27), (.a (.bsl 36 1 [(0, (.t 26))])), none⟩,
  ⟨(some 28), (.e (.app 36 (.t 20) (.t 27))), none⟩,
  ⟨(some 7), (.p (.mv (.t 28))), none⟩]
abbrev r28_5 : List Lo := [
  ⟨(some 18), (.p (.mv (.t 8))), none⟩,
  ⟨(some 19), (.p (.bin .add 3 (.t 18) (.c (.int .i64 1)))), none⟩,
  ⟨(some 8), (.p (.mv (.t 19))), none⟩]
def l28_6 : Ac := (.seq (.seq (.reg r28_3) (.cond (.t 17) .skip (.exit 0))) (.seq (.blk 1 (.reg r28_4)) (.reg r28_5)))
abbrev r28_7 : List Lo := [
  ⟨(some 29), (.p (.mv (.t 7))), none⟩,
  ⟨(some 6), (.p (.mv (.t 29))), none⟩]
def c28 : AFun := ⟨(.seq (.reg r28_0) (.seq (.reg r28_1) (.seq (.seq (.reg r28_2) (.blk 0 (.loop l28_6))) (.seq (.reg r28_7) .ret)))), [.t 6], 30⟩
theorem p28 : progOf Tryz.prog 28 = some c28 := by kernel_rfl

set_option maxRecDepth 4000
attribute [local irreducible] gD ndc oAd
def clampZ (z : Int) : Int := max (-1048576) (min z 1048576)
theorem clampZ_le (z : Int) : -1048576 ≤ clampZ z ∧ clampZ z ≤ 1048576 := by unfold clampZ; omega
def curL (zs : List Int) (dim i : Nat) : List Int := (zs.take i).map clampZ ++ List.replicate (dim - i) 0
def vecL (zs : List Int) (dim : Nat) : List Int := curL zs dim (min dim zs.length)
theorem curL_len {zs : List Int} {dim i : Nat} (hi : i ≤ dim) (hz : i ≤ zs.length) : (curL zs dim i).length = dim := by
  unfold curL; simp; omega
theorem vecL_len (zs : List Int) (dim : Nat) : (vecL zs dim).length = dim := curL_len (by omega) (by omega)
theorem curL_set {zs : List Int} {dim i : Nat} (hi : i < dim) (hz : i < zs.length) : (curL zs dim i).set i (clampZ (zs.getD i 0)) = curL zs dim (i + 1) := by
  unfold curL
  have hL : ((zs.take i).map clampZ).length = i := by simp; omega
  have e1 : dim - i = (dim - (i + 1)) + 1 := by omega
  rw [List.set_append_right _ _ (by omega), hL, Nat.sub_self, e1, List.replicate_succ, List.set_cons_zero]
  have e2 : zs.take (i + 1) = zs.take i ++ [zs[i]] := by rw [List.take_append_getElem hz]
  have e3 : zs.getD i 0 = zs[i] := by simp [List.getD, hz]
  rw [e2, List.map_append, List.append_assoc, e3]; rfl
theorem curL_in {zs : List Int} {dim i : Nat} : ∀ z ∈ curL zs dim i, -1048576 ≤ z ∧ z ≤ 1048576 := by
  intro z hz
  unfold curL at hz
  rcases List.mem_append.1 hz with h | h
  · obtain ⟨x, _, rfl⟩ := List.mem_map.1 h; exact clampZ_le x
  · rw [List.mem_replicate] at h; omega
theorem vecL_in {zs : List Int} {dim : Nat} : ∀ z ∈ vecL zs dim, -1048576 ≤ z ∧ z ≤ 1048576 := curL_in
theorem fit_of {l : List Int} (h : ∀ z ∈ l, -1048576 ≤ z ∧ z ≤ 1048576) : ∀ z ∈ l, IntKind.i32.wrap z = z := fun z hz => by have := h z hz; exact wrap32_id (by omega) (by omega)
theorem mkN {E : Env} (hE : E.ty = tyOf Tryz.prog) {n : Nat} (hn : n ≤ 512) : mkV E 38 (.int .i64 n) (.int .i64 n) = some (.row (.lst ((List.replicate n 0).map (Value.int .i32))) 0 true, fun i => .slice (some ⟨i, 0, some 3⟩) n n) := by
  have := mkV_int (E := E) ((congrFun hE 38).trans ty38) ((congrFun hE 21).trans ty21) (by decide) (k1 := .i64) (k2 := .i64) (n := (n : Int)) (by omega) (by omega)
  simpa using this
def rowL (l : List Int) : AObj := .row (.lst (l.map (Value.int .i32))) 0 true
theorem isl_row {H : Hp} (l : List Int) (h : ∀ z ∈ l, -1048576 ≤ z ∧ z ≤ 1048576) : IsSl .i32 (H.alloc (rowL l)) (.slice (some ⟨H.n, 0, some 3⟩) l.length l.length) l :=
  IsSl.own (Hp.get_alloc_same _ _) (.inr rfl) (Nat.le_refl _) (fit_of h)
def I33 (H : Hp) (v : Value) (zs : List Int) (dim : Nat) (d : Nat) (t : Tr Value) (H' : Hp) : Prop :=
  ∃ i : Nat, i + d = min dim zs.length ∧ H' = H.alloc (rowL (curL zs dim i)) ∧ Od.ev t (.t 0) = v ∧ Od.ev t (.t 1) = .int .i64 dim ∧ Od.ev t (.t 5) = .slice (some ⟨H.n, 0, some 3⟩) dim dim ∧ Od.ev t (.t 6) = .int .i64 i
theorem wf33 (x : FuncId → Option GF) (hx : x 33 = none) {H : Hp} (wf : Wf H) {v : Value} {zs : List Int} (hv : IsSl .i32 H v zs) {dim : Nat} (hdim : dim ≤ 512) :
    WF (envT x) 33 [v, .int .i64 dim] H fun r H' => r = .slice (some ⟨H.n, 0, some 3⟩) dim dim ∧ H' = H.alloc (rowL (vecL zs dim)) := by
  refine WF.go hx p33 rfl ?_
  have t38 : (envT x).ty 38 = _ := ty38
  have t21 : (envT x).ty 21 = _ := ty21
  unfold c33
  simp -implicitDefEqProofs only [↓D_if, gD_true, gD_false, ↓D_a, ↓D_e, ↓D_call, ↓ndc_0, Hp.get_put, Hp.get_alloc, ldR_lst, List.getElem?_map, List.length_map, List.length_set, A_mksl, E_store, omap_some, omap_none, bndV_none, ↓lp_nrm, ↓lp_exit, ↓lp_ret, ↓C_skip, ↓C_reg, ↓C_dreg, ↓C_seq, ↓C_cond, ↓C_blk, ↓C_loop, ↓C_exit, ↓C_ret, ↓sq_nrm, ↓sq_exit, ↓sq_ret, ↓outB_nrm, ↓outB_ret, ↓outB_exit, ↓fin_nrm, ↓fin_ret, ↓fin_ret0, ↓fin_nrm0, ↓fin_ret2, ↓rd_nrm, ↓rd_exit, ↓rd_ret, ↓cIf_true, ↓cIf_false, ↓VO_nil, ↓VO_go, ↓VO_if, ↓nx_some, ↓nx_none, putD_some, putD_none, ↓V_p, ↓V_r, ↓V_a, ↓V_e, ↓V_call, ↓V_inv, ↓oQ_some, ↓oP_some, ↓oA_some, ↓oC_some, gO_true, gO_false, ↓gO_true, ↓gO_false, cIf_true, cIf_false, oQ_some, oP_some, oA_some, oC_some, oV_some,  reserve0, ↓D_nil, ↓D_p, ↓D_r, ↓nd_some, ↓ndr_some, ↓oV_some, ↓ev_rst, has_cons, has_nil, P_mv, P_pick, pickV_true, pickV_false, P_bin, P_un, P_cnv, cnvV_int, P_mkif, P_mkfn, P_fadr, P_fld, P_iadr, P_idx, P_len, P_mn, P_mx, foldV_two, mn2_int, mx2_int, unA_not, unA_neg, B_add, B_sub, B_mul, B_quo, B_rem, B_eql, B_neq, B_lss, B_leq, B_gtr, B_geq, R_load, wants_ev, gV_t, gV_f, ↓evPut, ↓ev_c, ↓ev_f, ↓ev_g, isC_t, isC_c, isC_f, isC_g, ↓reduceIte, Nat.reduceEqDiff, Nat.reduceBEq, Bool.or_self, Bool.or_false, Bool.or_true, Bool.false_or, Bool.true_or, Bool.and_true, Bool.and_false, Bool.true_and, Bool.false_and, Bool.not_true, Bool.not_false, Bool.false_eq_true, ofArgs, List.map_cons, List.map_nil, List.nil_append, List.append_nil, List.cons_append, Nat.reduceAdd, calleeA, beq_self_eq_true, decide_true, decide_false, mkN (E := envT x) rfl hdim]
  refine VC.loop (I33 H v zs dim) (fun d t H' h => ?_) (d := min dim zs.length) ⟨0, by omega, by simp [curL, rowL], by simp only [↓evPut, ↓ev_c, ↓reduceIte, Nat.reduceEqDiff], by simp only [↓evPut, ↓ev_c, ↓reduceIte, Nat.reduceEqDiff], by simp only [↓evPut, ↓ev_c, ↓reduceIte, Nat.reduceEqDiff], by simp only [↓evPut, ↓ev_c, ↓reduceIte, Nat.reduceEqDiff]; rfl⟩
  obtain ⟨i, hd, rfl, h0, h1, h5, h6⟩ := h
  have hv' := hv.alloc wf (rowL (curL zs dim i))
  unfold l33_6
  by_cases la : (i : Int) < dim
  · by_cases lb : (i : Int) < zs.length
    · have i0 : (0 : Int) ≤ i := Int.natCast_nonneg i
      have wi := wrapSucc (i := i) (by omega)
      simp -implicitDefEqProofs only [↓D_if, gD_true, gD_false, ↓D_a, ↓D_e, ↓D_call, ↓ndc_0, Hp.get_put, Hp.get_alloc, ldR_lst, List.getElem?_map, List.length_map, List.length_set, A_mksl, E_store, omap_some, omap_none, bndV_none, ↓lp_nrm, ↓lp_exit, ↓lp_ret, ↓C_skip, ↓C_reg, ↓C_dreg, ↓C_seq, ↓C_cond, ↓C_blk, ↓C_loop, ↓C_exit, ↓C_ret, ↓sq_nrm, ↓sq_exit, ↓sq_ret, ↓outB_nrm, ↓outB_ret, ↓outB_exit, ↓fin_nrm, ↓fin_ret, ↓fin_ret0, ↓fin_nrm0, ↓fin_ret2, ↓rd_nrm, ↓rd_exit, ↓rd_ret, ↓cIf_true, ↓cIf_false, ↓VO_nil, ↓VO_go, ↓VO_if, ↓nx_some, ↓nx_none, putD_some, putD_none, ↓V_p, ↓V_r, ↓V_a, ↓V_e, ↓V_call, ↓V_inv, ↓oQ_some, ↓oP_some, ↓oA_some, ↓oC_some, gO_true, gO_false, ↓gO_true, ↓gO_false, cIf_true, cIf_false, oQ_some, oP_some, oA_some, oC_some, oV_some,  reserve0, ↓D_nil, ↓D_p, ↓D_r, ↓nd_some, ↓ndr_some, ↓oV_some, ↓ev_rst, has_cons, has_nil, P_mv, P_pick, pickV_true, pickV_false, P_bin, P_un, P_cnv, cnvV_int, P_mkif, P_mkfn, P_fadr, P_fld, P_iadr, P_idx, P_len, P_mn, P_mx, foldV_two, mn2_int, mx2_int, unA_not, unA_neg, B_add, B_sub, B_mul, B_quo, B_rem, B_eql, B_neq, B_lss, B_leq, B_gtr, B_geq, R_load, wants_ev, gV_t, gV_f, ↓evPut, ↓ev_c, ↓ev_f, ↓ev_g, isC_t, isC_c, isC_f, isC_g, ↓reduceIte, Nat.reduceEqDiff, Nat.reduceBEq, Bool.or_self, Bool.or_false, Bool.or_true, Bool.false_or, Bool.true_or, Bool.and_true, Bool.and_false, Bool.true_and, Bool.false_and, Bool.not_true, Bool.not_false, Bool.false_eq_true, ofArgs, List.map_cons, List.map_nil, List.nil_append, List.append_nil, List.cons_append, Nat.reduceAdd, calleeA, beq_self_eq_true, decide_true, decide_false, h0, h1, h5, h6, la, lb, lenV_sl t38 hv', iadr_sl t38 t21 hv' i0 lb, iadr_own t38 t21 _ _ _ _ _ i0 la, Int.toNat_natCast, load_sl t21 hv' (show i < zs.length by omega)]
      rw [storeV_row t21 H.n _ _ _ i .i32 _ (show (H.alloc (rowL (curL zs dim i))).get H.n = some (.row (.lst ((curL zs dim i).map (Value.int .i32))) 0 true) from Hp.get_alloc_same _ _) (by rw [List.length_map, curL_len (by omega) (by omega)]; omega)]
      simp -implicitDefEqProofs only [↓D_if, gD_true, gD_false, ↓D_a, ↓D_e, ↓D_call, ↓ndc_0, Hp.get_put, Hp.get_alloc, ldR_lst, List.getElem?_map, List.length_map, List.length_set, A_mksl, E_store, omap_some, omap_none, bndV_none, ↓lp_nrm, ↓lp_exit, ↓lp_ret, ↓C_skip, ↓C_reg, ↓C_dreg, ↓C_seq, ↓C_cond, ↓C_blk, ↓C_loop, ↓C_exit, ↓C_ret, ↓sq_nrm, ↓sq_exit, ↓sq_ret, ↓outB_nrm, ↓outB_ret, ↓outB_exit, ↓fin_nrm, ↓fin_ret, ↓fin_ret0, ↓fin_nrm0, ↓fin_ret2, ↓rd_nrm, ↓rd_exit, ↓rd_ret, ↓cIf_true, ↓cIf_false, ↓VO_nil, ↓VO_go, ↓VO_if, ↓nx_some, ↓nx_none, putD_some, putD_none, ↓V_p, ↓V_r, ↓V_a, ↓V_e, ↓V_call, ↓V_inv, ↓oQ_some, ↓oP_some, ↓oA_some, ↓oC_some, gO_true, gO_false, ↓gO_true, ↓gO_false, cIf_true, cIf_false, oQ_some, oP_some, oA_some, oC_some, oV_some,  reserve0, ↓D_nil, ↓D_p, ↓D_r, ↓nd_some, ↓ndr_some, ↓oV_some, ↓ev_rst, has_cons, has_nil, P_mv, P_pick, pickV_true, pickV_false, P_bin, P_un, P_cnv, cnvV_int, P_mkif, P_mkfn, P_fadr, P_fld, P_iadr, P_idx, P_len, P_mn, P_mx, foldV_two, mn2_int, mx2_int, unA_not, unA_neg, B_add, B_sub, B_mul, B_quo, B_rem, B_eql, B_neq, B_lss, B_leq, B_gtr, B_geq, R_load, wants_ev, gV_t, gV_f, ↓evPut, ↓ev_c, ↓ev_f, ↓ev_g, isC_t, isC_c, isC_f, isC_g, ↓reduceIte, Nat.reduceEqDiff, Nat.reduceBEq, Bool.or_self, Bool.or_false, Bool.or_true, Bool.false_or, Bool.true_or, Bool.and_true, Bool.and_false, Bool.true_and, Bool.false_and, Bool.not_true, Bool.not_false, Bool.false_eq_true, ofArgs, List.map_cons, List.map_nil, List.nil_append, List.append_nil, List.cons_append, Nat.reduceAdd, calleeA, beq_self_eq_true, decide_true, decide_false, h0, h1, h5, h6, wi, rowL, Hp.alloc_put]
      refine ⟨d - 1, by omega, i + 1, by omega, ?_, by simp only [↓evPut, ↓ev_c, ↓reduceIte, Nat.reduceEqDiff]; exact h0, by simp only [↓evPut, ↓ev_c, ↓reduceIte, Nat.reduceEqDiff]; exact h1, by simp only [↓evPut, ↓ev_c, ↓reduceIte, Nat.reduceEqDiff]; exact h5, by simp only [↓evPut, ↓ev_c, ↓reduceIte, Nat.reduceEqDiff]⟩
      rw [← curL_set (by omega) (by omega)]
      simp only [rowL, List.map_set, clampZ]
    · simp -implicitDefEqProofs only [↓D_if, gD_true, gD_false, ↓D_a, ↓D_e, ↓D_call, ↓ndc_0, Hp.get_put, Hp.get_alloc, ldR_lst, List.getElem?_map, List.length_map, List.length_set, A_mksl, E_store, omap_some, omap_none, bndV_none, ↓lp_nrm, ↓lp_exit, ↓lp_ret, ↓C_skip, ↓C_reg, ↓C_dreg, ↓C_seq, ↓C_cond, ↓C_blk, ↓C_loop, ↓C_exit, ↓C_ret, ↓sq_nrm, ↓sq_exit, ↓sq_ret, ↓outB_nrm, ↓outB_ret, ↓outB_exit, ↓fin_nrm, ↓fin_ret, ↓fin_ret0, ↓fin_nrm0, ↓fin_ret2, ↓rd_nrm, ↓rd_exit, ↓rd_ret, ↓cIf_true, ↓cIf_false, ↓VO_nil, ↓VO_go, ↓VO_if, ↓nx_some, ↓nx_none, putD_some, putD_none, ↓V_p, ↓V_r, ↓V_a, ↓V_e, ↓V_call, ↓V_inv, ↓oQ_some, ↓oP_some, ↓oA_some, ↓oC_some, gO_true, gO_false, ↓gO_true, ↓gO_false, cIf_true, cIf_false, oQ_some, oP_some, oA_some, oC_some, oV_some,  reserve0, ↓D_nil, ↓D_p, ↓D_r, ↓nd_some, ↓ndr_some, ↓oV_some, ↓ev_rst, has_cons, has_nil, P_mv, P_pick, pickV_true, pickV_false, P_bin, P_un, P_cnv, cnvV_int, P_mkif, P_mkfn, P_fadr, P_fld, P_iadr, P_idx, P_len, P_mn, P_mx, foldV_two, mn2_int, mx2_int, unA_not, unA_neg, B_add, B_sub, B_mul, B_quo, B_rem, B_eql, B_neq, B_lss, B_leq, B_gtr, B_geq, R_load, wants_ev, gV_t, gV_f, ↓evPut, ↓ev_c, ↓ev_f, ↓ev_g, isC_t, isC_c, isC_f, isC_g, ↓reduceIte, Nat.reduceEqDiff, Nat.reduceBEq, Bool.or_self, Bool.or_false, Bool.or_true, Bool.false_or, Bool.true_or, Bool.and_true, Bool.and_false, Bool.true_and, Bool.false_and, Bool.not_true, Bool.not_false, Bool.false_eq_true, ofArgs, List.map_cons, List.map_nil, List.nil_append, List.append_nil, List.cons_append, Nat.reduceAdd, calleeA, beq_self_eq_true, decide_true, decide_false, h0, h1, h5, h6, la, lb, lenV_sl t38 hv']
      refine ⟨trivial, ?_⟩
      have : i = min dim zs.length := by omega
      rw [this]; rfl
  · simp -implicitDefEqProofs only [↓D_if, gD_true, gD_false, ↓D_a, ↓D_e, ↓D_call, ↓ndc_0, Hp.get_put, Hp.get_alloc, ldR_lst, List.getElem?_map, List.length_map, List.length_set, A_mksl, E_store, omap_some, omap_none, bndV_none, ↓lp_nrm, ↓lp_exit, ↓lp_ret, ↓C_skip, ↓C_reg, ↓C_dreg, ↓C_seq, ↓C_cond, ↓C_blk, ↓C_loop, ↓C_exit, ↓C_ret, ↓sq_nrm, ↓sq_exit, ↓sq_ret, ↓outB_nrm, ↓outB_ret, ↓outB_exit, ↓fin_nrm, ↓fin_ret, ↓fin_ret0, ↓fin_nrm0, ↓fin_ret2, ↓rd_nrm, ↓rd_exit, ↓rd_ret, ↓cIf_true, ↓cIf_false, ↓VO_nil, ↓VO_go, ↓VO_if, ↓nx_some, ↓nx_none, putD_some, putD_none, ↓V_p, ↓V_r, ↓V_a, ↓V_e, ↓V_call, ↓V_inv, ↓oQ_some, ↓oP_some, ↓oA_some, ↓oC_some, gO_true, gO_false, ↓gO_true, ↓gO_false, cIf_true, cIf_false, oQ_some, oP_some, oA_some, oC_some, oV_some,  reserve0, ↓D_nil, ↓D_p, ↓D_r, ↓nd_some, ↓ndr_some, ↓oV_some, ↓ev_rst, has_cons, has_nil, P_mv, P_pick, pickV_true, pickV_false, P_bin, P_un, P_cnv, cnvV_int, P_mkif, P_mkfn, P_fadr, P_fld, P_iadr, P_idx, P_len, P_mn, P_mx, foldV_two, mn2_int, mx2_int, unA_not, unA_neg, B_add, B_sub, B_mul, B_quo, B_rem, B_eql, B_neq, B_lss, B_leq, B_gtr, B_geq, R_load, wants_ev, gV_t, gV_f, ↓evPut, ↓ev_c, ↓ev_f, ↓ev_g, isC_t, isC_c, isC_f, isC_g, ↓reduceIte, Nat.reduceEqDiff, Nat.reduceBEq, Bool.or_self, Bool.or_false, Bool.or_true, Bool.false_or, Bool.true_or, Bool.and_true, Bool.and_false, Bool.true_and, Bool.false_and, Bool.not_true, Bool.not_false, Bool.false_eq_true, ofArgs, List.map_cons, List.map_nil, List.nil_append, List.append_nil, List.cons_append, Nat.reduceAdd, calleeA, beq_self_eq_true, decide_true, decide_false, h0, h1, h5, h6, la, lenV_sl t38 hv']
    refine ⟨trivial, ?_⟩
    have : i = min dim zs.length := by omega
    rw [this]; rfl
end Go.Proofs.YtaegmplbkbaniaaGreatDoor

/-
  THE ABSTRACT MACHINE: slices of slices of whole numbers. No condition.
-/
set_option linter.all false
namespace Go.Proofs.YtaegmplbkbaniaaGreatDoor
open Go
theorem Hp.rd_one {H : Hp} {b o n i : Nat} {l : List Value} {c : Value} (hr : H.rd b o n = some l) (hi : i < n) (hc : l[i]? = some c) : H.rd b (o + i) 1 = some [c] := by
  unfold Hp.rd at hr ⊢
  split at hr
  · rename_i c0 s0 rw0 hg
    obtain ⟨g1, g2⟩ := Cl.rd_spec hr
    obtain ⟨g3, g4⟩ := g2 i hi
    rw [hc] at g3
    cases c0 with
    | lst l =>
      simp only [Cl.at] at g3
      have e1 : (l.drop (o + i)).take 1 = [c] := by
        apply List.ext_getElem?
        intro j
        rw [List.getElem?_take]
        cases j with
        | zero => simp only [Nat.zero_lt_one, if_true, List.getElem?_drop, Nat.add_zero, List.getElem?_cons_zero]; rw [← g3]
        | succ j => simp
      simp only [Cl.rd, e1]; rfl
    | big n z m =>
      simp only [Cl.at] at g3
      simp only [Cl.len] at g4
      have : Nat.ble (o + i + 1) n = true := Nat.ble_eq_true_of_le (by omega)
      simp only [Cl.rd, this]
      rw [show List.range 1 = [0] from rfl]
      simp only [List.map_cons, List.map_nil, Nat.add_zero]
      cases hm : m.get (o + i) with
      | none => rw [hm] at g3; simp only [g4, if_true] at g3; rw [← Option.some.inj g3]
      | some u => rw [hm] at g3; simp only [g4, if_true] at g3; rw [← Option.some.inj g3]
  · cases hr
/-- A slice of slices of 32-bit numbers. -/
structure IsVs (H : Hp) (v : Value) (L : List (List Int)) : Prop where
  is : ((v = .slice none 0 0 ∨ v = .slice (some ⟨0, 0, none⟩) 0 0) ∧ L = []) ∨ ∃ b o s cap cells, v = .slice (some ⟨b, o, some s⟩) L.length cap ∧ (s = 2 ∨ s = 3) ∧ L.length ≤ cap ∧ b < H.n ∧ H.rd b o L.length = some cells ∧
    ∀ (j : Nat) (hj : j < L.length), ∃ c, cells[j]? = some c ∧ IsSl .i32 H c L[j]
section
variable {E : Env} {H : Hp} {v : Value} {L : List (List Int)}
theorem lenV_vs {T e by' : Nat} {z : Option (List Value)} {c : Bool} (hT : E.ty T = some ⟨.slc e, 1, by', z, c⟩) (h : IsVs H v L) : lenV E T v = some (.int .i64 (L.length : Nat)) := by
  rcases h.is with ⟨rfl | rfl, rfl⟩ | ⟨b, o, s, cap, cells, rfl, _, _, _⟩ <;> (unfold lenV; simp only [hT]) <;> rfl
theorem iadr_vs {T e b1 b2 : Nat} {z z2 : Option (List Value)} {c c2 : Bool} {ke : DK} (hT : E.ty T = some ⟨.slc e, 1, b1, z, c⟩) (he : E.ty e = some ⟨ke, 1, b2, z2, c2⟩) (h : IsVs H v L) {j : IntKind} {i : Int} (h0 : 0 ≤ i) (h1 : i < L.length) :
    iadrA E T v (.int j i) = some (elA v i.toNat) := by
  rcases h.is with ⟨_, rfl⟩ | ⟨b, o, s, cap, cells, rfl, _, _, _⟩
  · simp at h1; omega
  · unfold iadrA elA
    simp only [hT, he]
    rw [if_pos ⟨h0, h1⟩]; simp
theorem load_vs {T e b2 : Nat} {z2 : Option (List Value)} {c2 : Bool} (he : E.ty T = some ⟨.slc e, 1, b2, z2, c2⟩) (h : IsVs H v L) {i : Nat} (h1 : i < L.length) :
    ∃ c, loadV E H T (elA v i) = some c ∧ IsSl .i32 H c L[i] := by
  rcases h.is with ⟨_, rfl⟩ | ⟨b, o, s, cap, cells, rfl, _, _, _, hr, hc⟩
  · simp at h1
  · obtain ⟨c, c1, c3⟩ := hc i h1
    refine ⟨c, ?_, c3⟩
    unfold loadV elA
    simp only [he]
    rw [Hp.rd_one hr h1 c1]; rfl
theorem IsVs.grow {H' : Hp} (wf : Wf H) (h : IsVs H v L) (old : ∀ b, b < H.n → H'.get b = H.get b) (hn : H.n ≤ H'.n) : IsVs H' v L := by
  rcases h.is with h | ⟨b, o, s, cap, cells, e, hs, hc, hb, hr, hj⟩
  · exact ⟨.inl h⟩
  · refine ⟨.inr ⟨b, o, s, cap, cells, e, hs, hc, Nat.lt_of_lt_of_le hb hn, ?_, fun j h => ?_⟩⟩
    · unfold Hp.rd at hr ⊢; rw [old b hb]; exact hr
    · obtain ⟨c, c1, c2⟩ := hj j h; exact ⟨c, c1, c2.grow wf old⟩
end
end Go.Proofs.YtaegmplbkbaniaaGreatDoor

/-
  fieldfarelaw7.Vecs in the machine: what it makes. No condition.
-/
set_option linter.all false
namespace Go.Proofs.YtaegmplbkbaniaaGreatDoor
open Go
attribute [local irreducible] VO VC VD VD1 V1 nx nd ndr sq cIf gO oQ oP oA oC oV oIf oB fin rd' outB WC WF WO WD W1
set_option maxRecDepth 100000
set_option maxRecDepth 4000
attribute [local irreducible] gD ndc oAd
def bslV (E : Env) (T n : Nat) (l : List (Nat × Value)) : Option (AObj × (Nat → Value)) := match E.ty T with
    | some { k := .slc e, .. } => match E.ty e with
      | some te => match te.zero, some (l.map fun p => (p.1 * te.size, te.size, p.2)) with
        | some z, some l => if n * te.size ≤ 65536 ∧ z.length = te.size then
            (match fillA (rep z n) l with
            | some cs => some (.row (.lst cs) 0 true, fun i => .slice (some ⟨i, 0, some (2 * te.size + 1)⟩) n n)
            | none => none) else none
        | _, _ => none
      | none => none
    | _ => none
theorem parts_bsl (t : Tr Value) (s : Nat) : ∀ ps : List (Nat × Od), parts (fun i => some (i * s, s)) t ps = some ((ps.map fun p => (p.1, p.2.ev t)).map fun p => (p.1 * s, s, p.2))
  | [] => rfl
  | p :: r => by simp only [parts, parts_bsl t s r]; rfl
theorem A_bsl {E : Env} {t : Tr Value} (T n : Nat) (ps : List (Nat × Od)) : allocA E t (.bsl T n ps) = bslV E T n (ps.map fun p => (p.1, p.2.ev t)) := by
  unfold allocA bslV
  simp only [parts_bsl]
  rfl
theorem bslV_one {E : Env} {T e b1 b2 : Nat} {z : Option (List Value)} {z0 : Value} {c c2 : Bool} {k : DK} (hT : E.ty T = some ⟨.slc e, 1, b1, z, c⟩) (he : E.ty e = some ⟨k, 1, b2, some [z0], c2⟩) (v : Value) (hv : v.cells = #[v]) :
    bslV E T 1 [(0, v)] = some (.row (.lst [v]) 0 true, fun i => .slice (some ⟨i, 0, some 3⟩) 1 1) := by
  unfold bslV
  simp only [hT, he]
  rw [if_pos ⟨by omega, rfl⟩]
  simp [fillA, rep, hv]
def appV (E : Env) (H : Hp) (T : Nat) (s x : Value) : Option (Value × Hp) := match E.ty T with
    | some { k := .slc e, .. } => match E.ty e, lenA x with
      | some te, some n => match srcCells H te.size n x, te.zero with
        | some new, some z => match Nat.beq z.length te.size with
          | true => appA te.size te.bytes H s n new
          | false => none
        | _, _ => none
      | _, _ => none
    | _ => none
theorem E_app {E : Env} {t : Tr Value} {H : Hp} (T : Nat) (s x : Od) : effA E t H (.app T s x) = appV E H T (s.ev t) (x.ev t) := rfl
section
variable {E : Env} {H : Hp} {T e b1 b2 : Nat} {z : Option (List Value)} {z0 : Value} {c c2 : Bool} {k : DK}
/-- One element put behind nothing. -/
theorem appV_nil (hT : E.ty T = some ⟨.slc e, 1, b1, z, c⟩) (he : E.ty e = some ⟨k, 1, b2, some [z0], c2⟩) (hb : b2 ≤ 2 ^ 20) {xb : Nat} {v : Value} (hg : H.get xb = some (.row (.lst [v]) 0 true)) :
    appV E H T (.slice none 0 0) (.slice (some ⟨xb, 0, some 3⟩) 1 1) = some (.slice (some ⟨H.n, 0, some 2⟩) 1 1, H.alloc (.row (.lst [v]) 0 true)) := by
  unfold appV
  simp only [hT, he, lenA, srcCells]
  rw [if_pos (by simp)]
  have : H.rd xb 0 (1 * 1) = some [v] := by rw [Hp.rd_lst hg (by simp)]; rfl
  simp only [this]
  rw [show Nat.beq [z0].length 1 = true from rfl]
  simp only [appA]
  rw [if_pos (by simp; omega)]
/-- One element put behind a slice of one's own that is full. -/
theorem appV_own (hT : E.ty T = some ⟨.slc e, 1, b1, z, c⟩) (he : E.ty e = some ⟨k, 1, b2, some [z0], c2⟩) (hb : b2 ≤ 64) {xb b : Nat} {v : Value} (hg : H.get xb = some (.row (.lst [v]) 0 true)) {l : List Value} (hl : H.get b = some (.row (.lst l) 0 true))
    (hn : l.length ≤ 65536) (h1 : one v = true) :
    appV E H T (.slice (some ⟨b, 0, some 2⟩) l.length l.length) (.slice (some ⟨xb, 0, some 3⟩) 1 1) = some (.slice (some ⟨H.n, 0, some 2⟩) (l.length + 1) (l.length + 1), (H.put b none).alloc (.row (.lst (l ++ [v])) 0 true)) := by
  unfold appV
  simp only [hT, he, lenA, srcCells]
  rw [if_pos (by simp)]
  have : H.rd xb 0 (1 * 1) = some [v] := by rw [Hp.rd_lst hg (by simp)]; rfl
  simp only [this]
  rw [show Nat.beq [z0].length 1 = true from rfl]
  simp only [appA]
  have hr : H.rd b 0 (l.length * 1) = some l := by rw [Hp.rd_lst hl (by simp)]; simp
  have hbb : (l.length + 1) * b2 ≤ (65536 + 1) * 64 := Nat.mul_le_mul (by omega) hb
  rw [if_pos (by simp), if_neg (by omega), if_pos (by omega), if_neg (by decide)]
  simp only [hl, hr, List.all_cons, List.all_nil, h1, Bool.and_self]
end
/-- A slice of one's own of slices of one's own. -/
structure OwnVs (H : Hp) (n0 : Nat) (v : Value) (dim : Nat) (L : List (List Int)) : Prop where
  is : (v = .slice none 0 0 ∧ L = []) ∨ ∃ b cells, v = .slice (some ⟨b, 0, some 2⟩) L.length L.length ∧ n0 ≤ b ∧ b < H.n ∧ H.get b = some (.row (.lst cells) 0 true) ∧ cells.length = L.length ∧
    ∀ (j : Nat) (hj : j < L.length), ∃ c, cells[j]? = some (.slice (some ⟨c, 0, some 3⟩) dim dim) ∧ n0 ≤ c ∧ c < H.n ∧ c ≠ b ∧ H.get c = some (rowL L[j]) ∧ L[j].length = dim
abbrev sld (b dim : Nat) : Value := .slice (some ⟨b, 0, some 3⟩) dim dim
theorem OwnVs.snoc {E : Env} (hE : E.ty = tyOf Tryz.prog) {H : Hp} (wf : Wf H) {n0 dim : Nat} {w : Value} {L : List (List Int)} (hn : n0 ≤ H.n) (own : OwnVs H n0 w dim L) {z : List Int} (hz : z.length = dim) (hL : L.length ≤ 65536) :
    ∃ r H3, appV E ((H.alloc (rowL z)).alloc (.row (.lst [sld H.n dim]) 0 true)) 36 w (.slice (some ⟨(H.alloc (rowL z)).n, 0, some 3⟩) 1 1) = some (r, H3) ∧ Wf H3 ∧ (∀ b, b < n0 → H3.get b = H.get b) ∧ H.n ≤ H3.n ∧ OwnVs H3 n0 r dim (L ++ [z]) := by
  have t36 := (congrFun hE 36).trans ty36
  have t38 := (congrFun hE 38).trans ty38
  have gx : ((H.alloc (rowL z)).alloc (.row (.lst [sld H.n dim]) 0 true)).get (H.alloc (rowL z)).n = some (.row (.lst [sld H.n dim]) 0 true) := Hp.get_alloc_same _ _
  have wf2 : Wf ((H.alloc (rowL z)).alloc (.row (.lst [sld H.n dim]) 0 true)) := Wf.alloc (Wf.alloc wf _) _
  have gz : ((H.alloc (rowL z)).alloc (.row (.lst [sld H.n dim]) 0 true)).get H.n = some (rowL z) := by
    rw [Hp.get_alloc, if_neg (by rw [Hp.alloc_n]; omega)]; exact Hp.get_alloc_same _ _
  have gold : ∀ b, b < H.n → ((H.alloc (rowL z)).alloc (.row (.lst [sld H.n dim]) 0 true)).get b = H.get b := fun b hb => by
    rw [Hp.get_alloc, if_neg (by rw [Hp.alloc_n]; omega), Hp.get_alloc, if_neg (by omega)]
  have n2 : ((H.alloc (rowL z)).alloc (.row (.lst [sld H.n dim]) 0 true)).n = H.n + 2 := by rw [Hp.alloc_n, Hp.alloc_n]
  generalize ((H.alloc (rowL z)).alloc (.row (.lst [sld H.n dim]) 0 true)) = H2 at gx wf2 gz gold n2 ⊢
  generalize (H.alloc (rowL z)).n = xb at gx ⊢
  rcases own.is with ⟨rfl, rfl⟩ | ⟨b, cells, rfl, hb0, hb1, hg, hl, hc⟩
  · refine ⟨_, _, appV_nil t36 t38 (by decide) gx, Wf.alloc wf2 _, fun b hb => by rw [Hp.get_alloc, if_neg (by omega)]; exact gold b (by omega), by rw [Hp.alloc_n]; omega, ⟨.inr ⟨H2.n, [sld H.n dim], rfl, by omega, by rw [Hp.alloc_n]; omega, Hp.get_alloc_same _ _, rfl, fun j hj => ?_⟩⟩⟩
    have : j = 0 := by simp at hj; omega
    subst this
    exact ⟨H.n, rfl, hn, by rw [Hp.alloc_n]; omega, by omega, by rw [Hp.get_alloc, if_neg (by omega)]; exact gz, hz⟩
  · have hg2 : H2.get b = some (.row (.lst cells) 0 true) := by rw [gold b hb1]; exact hg
    have := appV_own (b := b) t36 t38 (by decide) gx hg2 (by omega) rfl
    rw [hl] at this
    refine ⟨_, _, this, Wf.alloc (fun id hi => ?_) _, fun b' hb' => ?_, ?_, ⟨.inr ⟨H2.n, cells ++ [sld H.n dim], ?_, by omega, ?_, ?_, by simp [hl], fun j hj => ?_⟩⟩⟩
    · have hi : H2.n ≤ id := hi
      rw [Hp.get_put, if_neg (by omega)]; exact wf2 id hi
    · rw [Hp.get_alloc, if_neg (by rw [Hp.put_n]; omega), Hp.get_put, if_neg (by omega)]; exact gold b' (by omega)
    · rw [Hp.alloc_n, Hp.put_n]; omega
    · simp
    · rw [Hp.alloc_n, Hp.put_n]; omega
    · exact Hp.get_alloc_same _ _
    · by_cases e : j < L.length
      · obtain ⟨c, c1, c2, c3, c4, c5, c6⟩ := hc j e
        refine ⟨c, by rw [List.getElem?_append_left (by omega)]; exact c1, c2, by rw [Hp.alloc_n, Hp.put_n]; omega, by omega, ?_, ?_⟩
        · rw [Hp.get_alloc, if_neg (by rw [Hp.put_n]; omega), Hp.get_put, if_neg c4, gold c c3, List.getElem_append_left e]; exact c5
        · rw [List.getElem_append_left e]; exact c6
      · have ej : j = L.length := by simp at hj; omega
        subst ej
        refine ⟨H.n, by rw [List.getElem?_append_right (by omega), hl, Nat.sub_self]; rfl, hn, by rw [Hp.alloc_n, Hp.put_n]; omega, by omega, ?_, ?_⟩
        · rw [Hp.get_alloc, if_neg (by rw [Hp.put_n]; omega), Hp.get_put, if_neg (by omega), gz]; simp
        · simpa using hz
structure L28 (H : Hp) (v : Value) (L : List (List Int)) (dim n : Nat) (t : Tr Value) (H' : Hp) (i : Nat) : Prop where
  wf : Wf H'
  old : ∀ b, b < H.n → H'.get b = H.get b
  nn : H.n ≤ H'.n
  t0 : Od.ev t (.t 0) = v
  t1 : Od.ev t (.t 1) = .int .i64 dim
  t2 : Od.ev t (.t 2) = .int .i64 n
  t8 : Od.ev t (.t 8) = .int .i64 i
  own : OwnVs H' H.n (Od.ev t (.t 7)) dim ((L.take i).map fun z => vecL z dim)
def I28 (H : Hp) (v : Value) (L : List (List Int)) (dim n : Nat) (d : Nat) (t : Tr Value) (H' : Hp) : Prop :=
  ∃ i : Nat, i + d = min n L.length ∧ L28 H v L dim n t H' i
theorem wf28 (x : FuncId → Option GF) (hx : x 28 = none) (hx3 : x 33 = none) {H : Hp} (wf : Wf H) {v : Value} {L : List (List Int)} (hv : IsVs H v L) {dim n : Nat} (hdim : dim ≤ 512) (hn : n ≤ 64) :
    WF (envT x) 28 [v, .int .i64 dim, .int .i64 n] H fun r H' => Wf H' ∧ (∀ b, b < H.n → H'.get b = H.get b) ∧ H.n ≤ H'.n ∧ OwnVs H' H.n r dim ((L.take n).map fun z => vecL z dim) := by
  refine WF.go hx p28 rfl ?_
  have t36 : (envT x).ty 36 = _ := ty36
  have t38 : (envT x).ty 38 = _ := ty38
  have t21 : (envT x).ty 21 = _ := ty21
  unfold c28
  simp -implicitDefEqProofs only [↓D_if, gD_true, gD_false, ↓D_a, ↓D_e, ↓D_call, ↓ndc_0, Hp.get_put, Hp.get_alloc, ldR_lst, List.getElem?_map, List.length_map, List.length_set, A_mksl, E_store, omap_some, omap_none, bndV_none, ↓lp_nrm, ↓lp_exit, ↓lp_ret, ↓C_skip, ↓C_reg, ↓C_dreg, ↓C_seq, ↓C_cond, ↓C_blk, ↓C_loop, ↓C_exit, ↓C_ret, ↓sq_nrm, ↓sq_exit, ↓sq_ret, ↓outB_nrm, ↓outB_ret, ↓outB_exit, ↓fin_nrm, ↓fin_ret, ↓fin_ret0, ↓fin_nrm0, ↓fin_ret2, ↓rd_nrm, ↓rd_exit, ↓rd_ret, ↓cIf_true, ↓cIf_false, ↓VO_nil, ↓VO_go, ↓VO_if, ↓nx_some, ↓nx_none, putD_some, putD_none, ↓V_p, ↓V_r, ↓V_a, ↓V_e, ↓V_call, ↓V_inv, ↓oQ_some, ↓oP_some, ↓oA_some, ↓oC_some, gO_true, gO_false, ↓gO_true, ↓gO_false, cIf_true, cIf_false, oQ_some, oP_some, oA_some, oC_some, oV_some,  reserve0, ↓D_nil, ↓D_p, ↓D_r, ↓nd_some, ↓ndr_some, ↓oV_some, ↓ev_rst, has_cons, has_nil, P_mv, P_pick, pickV_true, pickV_false, P_bin, P_un, P_cnv, cnvV_int, P_mkif, P_mkfn, P_fadr, P_fld, P_iadr, P_idx, P_len, P_mn, P_mx, foldV_two, mn2_int, mx2_int, unA_not, unA_neg, B_add, B_sub, B_mul, B_quo, B_rem, B_eql, B_neq, B_lss, B_leq, B_gtr, B_geq, R_load, wants_ev, gV_t, gV_f, ↓evPut, ↓ev_c, ↓ev_f, ↓ev_g, isC_t, isC_c, isC_f, isC_g, ↓reduceIte, Nat.reduceEqDiff, Nat.reduceBEq, Bool.or_self, Bool.or_false, Bool.or_true, Bool.false_or, Bool.true_or, Bool.and_true, Bool.and_false, Bool.true_and, Bool.false_and, Bool.not_true, Bool.not_false, Bool.false_eq_true, ofArgs, List.map_cons, List.map_nil, List.nil_append, List.append_nil, List.cons_append, Nat.reduceAdd, calleeA, beq_self_eq_true, decide_true, decide_false]
  refine VC.loop (I28 H v L dim n) (fun d t H' h => ?_) (d := min n L.length) ⟨0, by omega, ⟨wf, fun _ _ => rfl, Nat.le_refl _, by simp only [↓evPut, ↓ev_c, ↓reduceIte, Nat.reduceEqDiff], by simp only [↓evPut, ↓ev_c, ↓reduceIte, Nat.reduceEqDiff], by simp only [↓evPut, ↓ev_c, ↓reduceIte, Nat.reduceEqDiff], by simp only [↓evPut, ↓ev_c, ↓reduceIte, Nat.reduceEqDiff]; rfl, ⟨.inl ⟨by simp only [↓evPut, ↓ev_c, ↓reduceIte, Nat.reduceEqDiff], rfl⟩⟩⟩⟩
  obtain ⟨i, hd, l⟩ := h
  have hv' := hv.grow wf l.old l.nn
  have h0 := l.t0
  have h1 := l.t1
  have h2 := l.t2
  have h8 := l.t8
  have fin' : i = min n L.length → (Wf H' ∧ (∀ b, b < H.n → H'.get b = H.get b) ∧ H.n ≤ H'.n ∧ OwnVs H' H.n (Od.ev t (.t 7)) dim ((L.take n).map fun z => vecL z dim)) := fun e => by
    refine ⟨l.wf, l.old, l.nn, ?_⟩
    have e2 : L.take n = L.take i := by
      rw [e]; by_cases hh : n ≤ L.length
      · rw [Nat.min_eq_left hh]
      · rw [Nat.min_eq_right (by omega), List.take_length, List.take_of_length_le (by omega)]
    rw [e2]; exact l.own
  unfold l28_6
  by_cases la : (i : Int) < L.length
  · by_cases lb : (i : Int) < n
    · have i0 : (0 : Int) ≤ i := Int.natCast_nonneg i
      have wi := wrapSucc (i := i) (by omega)
      have hi : i < L.length := by omega
      obtain ⟨c, hc, hcs⟩ := load_vs t38 hv' hi
      simp -implicitDefEqProofs only [↓D_if, gD_true, gD_false, ↓D_a, ↓D_e, ↓D_call, ↓ndc_0, Hp.get_put, Hp.get_alloc, ldR_lst, List.getElem?_map, List.length_map, List.length_set, A_mksl, E_store, omap_some, omap_none, bndV_none, ↓lp_nrm, ↓lp_exit, ↓lp_ret, ↓C_skip, ↓C_reg, ↓C_dreg, ↓C_seq, ↓C_cond, ↓C_blk, ↓C_loop, ↓C_exit, ↓C_ret, ↓sq_nrm, ↓sq_exit, ↓sq_ret, ↓outB_nrm, ↓outB_ret, ↓outB_exit, ↓fin_nrm, ↓fin_ret, ↓fin_ret0, ↓fin_nrm0, ↓fin_ret2, ↓rd_nrm, ↓rd_exit, ↓rd_ret, ↓cIf_true, ↓cIf_false, ↓VO_nil, ↓VO_go, ↓VO_if, ↓nx_some, ↓nx_none, putD_some, putD_none, ↓V_p, ↓V_r, ↓V_a, ↓V_e, ↓V_call, ↓V_inv, ↓oQ_some, ↓oP_some, ↓oA_some, ↓oC_some, gO_true, gO_false, ↓gO_true, ↓gO_false, cIf_true, cIf_false, oQ_some, oP_some, oA_some, oC_some, oV_some,  reserve0, ↓D_nil, ↓D_p, ↓D_r, ↓nd_some, ↓ndr_some, ↓oV_some, ↓ev_rst, has_cons, has_nil, P_mv, P_pick, pickV_true, pickV_false, P_bin, P_un, P_cnv, cnvV_int, P_mkif, P_mkfn, P_fadr, P_fld, P_iadr, P_idx, P_len, P_mn, P_mx, foldV_two, mn2_int, mx2_int, unA_not, unA_neg, B_add, B_sub, B_mul, B_quo, B_rem, B_eql, B_neq, B_lss, B_leq, B_gtr, B_geq, R_load, wants_ev, gV_t, gV_f, ↓evPut, ↓ev_c, ↓ev_f, ↓ev_g, isC_t, isC_c, isC_f, isC_g, ↓reduceIte, Nat.reduceEqDiff, Nat.reduceBEq, Bool.or_self, Bool.or_false, Bool.or_true, Bool.false_or, Bool.true_or, Bool.and_true, Bool.and_false, Bool.true_and, Bool.false_and, Bool.not_true, Bool.not_false, Bool.false_eq_true, ofArgs, List.map_cons, List.map_nil, List.nil_append, List.append_nil, List.cons_append, Nat.reduceAdd, calleeA, beq_self_eq_true, decide_true, decide_false, h0, h1, h2, h8, la, lb, lenV_vs t36 hv', iadr_vs t36 t38 hv' i0 la, Int.toNat_natCast, hc]
      refine (wf33 x hx3 l.wf hcs hdim).mono fun r H1 hr => ?_
      obtain ⟨rfl, rfl⟩ := hr
      obtain ⟨r3, H3, hap, w3, o3, n3, own3⟩ := OwnVs.snoc (E := envT x) rfl l.wf l.nn l.own (vecL_len L[i] dim) (by simp; omega)
      obtain ⟨w, h7⟩ : ∃ w, Od.ev t (.t 7) = w := ⟨_, rfl⟩
      rw [h7] at hap
      simp -implicitDefEqProofs only [↓D_if, gD_true, gD_false, ↓D_a, ↓D_e, ↓D_call, ↓ndc_0, Hp.get_put, Hp.get_alloc, ldR_lst, List.getElem?_map, List.length_map, List.length_set, A_mksl, E_store, omap_some, omap_none, bndV_none, ↓lp_nrm, ↓lp_exit, ↓lp_ret, ↓C_skip, ↓C_reg, ↓C_dreg, ↓C_seq, ↓C_cond, ↓C_blk, ↓C_loop, ↓C_exit, ↓C_ret, ↓sq_nrm, ↓sq_exit, ↓sq_ret, ↓outB_nrm, ↓outB_ret, ↓outB_exit, ↓fin_nrm, ↓fin_ret, ↓fin_ret0, ↓fin_nrm0, ↓fin_ret2, ↓rd_nrm, ↓rd_exit, ↓rd_ret, ↓cIf_true, ↓cIf_false, ↓VO_nil, ↓VO_go, ↓VO_if, ↓nx_some, ↓nx_none, putD_some, putD_none, ↓V_p, ↓V_r, ↓V_a, ↓V_e, ↓V_call, ↓V_inv, ↓oQ_some, ↓oP_some, ↓oA_some, ↓oC_some, gO_true, gO_false, ↓gO_true, ↓gO_false, cIf_true, cIf_false, oQ_some, oP_some, oA_some, oC_some, oV_some,  reserve0, ↓D_nil, ↓D_p, ↓D_r, ↓nd_some, ↓ndr_some, ↓oV_some, ↓ev_rst, has_cons, has_nil, P_mv, P_pick, pickV_true, pickV_false, P_bin, P_un, P_cnv, cnvV_int, P_mkif, P_mkfn, P_fadr, P_fld, P_iadr, P_idx, P_len, P_mn, P_mx, foldV_two, mn2_int, mx2_int, unA_not, unA_neg, B_add, B_sub, B_mul, B_quo, B_rem, B_eql, B_neq, B_lss, B_leq, B_gtr, B_geq, R_load, wants_ev, gV_t, gV_f, ↓evPut, ↓ev_c, ↓ev_f, ↓ev_g, isC_t, isC_c, isC_f, isC_g, ↓reduceIte, Nat.reduceEqDiff, Nat.reduceBEq, Bool.or_self, Bool.or_false, Bool.or_true, Bool.false_or, Bool.true_or, Bool.and_true, Bool.and_false, Bool.true_and, Bool.false_and, Bool.not_true, Bool.not_false, Bool.false_eq_true, ofArgs, List.map_cons, List.map_nil, List.nil_append, List.append_nil, List.cons_append, Nat.reduceAdd, calleeA, beq_self_eq_true, decide_true, decide_false, h0, h1, h2, h7, h8, A_bsl, E_app, bslV_one t36 t38 (.slice (some ⟨H'.n, 0, some 3⟩) dim dim) rfl]
      rw [hap]
      simp -implicitDefEqProofs only [↓D_if, gD_true, gD_false, ↓D_a, ↓D_e, ↓D_call, ↓ndc_0, Hp.get_put, Hp.get_alloc, ldR_lst, List.getElem?_map, List.length_map, List.length_set, A_mksl, E_store, omap_some, omap_none, bndV_none, ↓lp_nrm, ↓lp_exit, ↓lp_ret, ↓C_skip, ↓C_reg, ↓C_dreg, ↓C_seq, ↓C_cond, ↓C_blk, ↓C_loop, ↓C_exit, ↓C_ret, ↓sq_nrm, ↓sq_exit, ↓sq_ret, ↓outB_nrm, ↓outB_ret, ↓outB_exit, ↓fin_nrm, ↓fin_ret, ↓fin_ret0, ↓fin_nrm0, ↓fin_ret2, ↓rd_nrm, ↓rd_exit, ↓rd_ret, ↓cIf_true, ↓cIf_false, ↓VO_nil, ↓VO_go, ↓VO_if, ↓nx_some, ↓nx_none, putD_some, putD_none, ↓V_p, ↓V_r, ↓V_a, ↓V_e, ↓V_call, ↓V_inv, ↓oQ_some, ↓oP_some, ↓oA_some, ↓oC_some, gO_true, gO_false, ↓gO_true, ↓gO_false, cIf_true, cIf_false, oQ_some, oP_some, oA_some, oC_some, oV_some,  reserve0, ↓D_nil, ↓D_p, ↓D_r, ↓nd_some, ↓ndr_some, ↓oV_some, ↓ev_rst, has_cons, has_nil, P_mv, P_pick, pickV_true, pickV_false, P_bin, P_un, P_cnv, cnvV_int, P_mkif, P_mkfn, P_fadr, P_fld, P_iadr, P_idx, P_len, P_mn, P_mx, foldV_two, mn2_int, mx2_int, unA_not, unA_neg, B_add, B_sub, B_mul, B_quo, B_rem, B_eql, B_neq, B_lss, B_leq, B_gtr, B_geq, R_load, wants_ev, gV_t, gV_f, ↓evPut, ↓ev_c, ↓ev_f, ↓ev_g, isC_t, isC_c, isC_f, isC_g, ↓reduceIte, Nat.reduceEqDiff, Nat.reduceBEq, Bool.or_self, Bool.or_false, Bool.or_true, Bool.false_or, Bool.true_or, Bool.and_true, Bool.and_false, Bool.true_and, Bool.false_and, Bool.not_true, Bool.not_false, Bool.false_eq_true, ofArgs, List.map_cons, List.map_nil, List.nil_append, List.append_nil, List.cons_append, Nat.reduceAdd, calleeA, beq_self_eq_true, decide_true, decide_false, h0, h1, h2, h8, wi]
      refine ⟨d - 1, by omega, i + 1, by omega, ⟨w3, fun b hb => (o3 b hb).trans (l.old b hb), Nat.le_trans l.nn n3, ?_, ?_, ?_, ?_, ?_⟩⟩
      · simp only [↓evPut, ↓ev_c, ↓reduceIte, Nat.reduceEqDiff]; exact h0
      · simp only [↓evPut, ↓ev_c, ↓reduceIte, Nat.reduceEqDiff]; exact h1
      · simp only [↓evPut, ↓ev_c, ↓reduceIte, Nat.reduceEqDiff]; exact h2
      · simp only [↓evPut, ↓ev_c, ↓reduceIte, Nat.reduceEqDiff]
      · simp only [↓evPut, ↓ev_c, ↓reduceIte, Nat.reduceEqDiff]
        rw [← List.take_append_getElem hi, List.map_append]; exact own3
    · simp -implicitDefEqProofs only [↓D_if, gD_true, gD_false, ↓D_a, ↓D_e, ↓D_call, ↓ndc_0, Hp.get_put, Hp.get_alloc, ldR_lst, List.getElem?_map, List.length_map, List.length_set, A_mksl, E_store, omap_some, omap_none, bndV_none, ↓lp_nrm, ↓lp_exit, ↓lp_ret, ↓C_skip, ↓C_reg, ↓C_dreg, ↓C_seq, ↓C_cond, ↓C_blk, ↓C_loop, ↓C_exit, ↓C_ret, ↓sq_nrm, ↓sq_exit, ↓sq_ret, ↓outB_nrm, ↓outB_ret, ↓outB_exit, ↓fin_nrm, ↓fin_ret, ↓fin_ret0, ↓fin_nrm0, ↓fin_ret2, ↓rd_nrm, ↓rd_exit, ↓rd_ret, ↓cIf_true, ↓cIf_false, ↓VO_nil, ↓VO_go, ↓VO_if, ↓nx_some, ↓nx_none, putD_some, putD_none, ↓V_p, ↓V_r, ↓V_a, ↓V_e, ↓V_call, ↓V_inv, ↓oQ_some, ↓oP_some, ↓oA_some, ↓oC_some, gO_true, gO_false, ↓gO_true, ↓gO_false, cIf_true, cIf_false, oQ_some, oP_some, oA_some, oC_some, oV_some,  reserve0, ↓D_nil, ↓D_p, ↓D_r, ↓nd_some, ↓ndr_some, ↓oV_some, ↓ev_rst, has_cons, has_nil, P_mv, P_pick, pickV_true, pickV_false, P_bin, P_un, P_cnv, cnvV_int, P_mkif, P_mkfn, P_fadr, P_fld, P_iadr, P_idx, P_len, P_mn, P_mx, foldV_two, mn2_int, mx2_int, unA_not, unA_neg, B_add, B_sub, B_mul, B_quo, B_rem, B_eql, B_neq, B_lss, B_leq, B_gtr, B_geq, R_load, wants_ev, gV_t, gV_f, ↓evPut, ↓ev_c, ↓ev_f, ↓ev_g, isC_t, isC_c, isC_f, isC_g, ↓reduceIte, Nat.reduceEqDiff, Nat.reduceBEq, Bool.or_self, Bool.or_false, Bool.or_true, Bool.false_or, Bool.true_or, Bool.and_true, Bool.and_false, Bool.true_and, Bool.false_and, Bool.not_true, Bool.not_false, Bool.false_eq_true, ofArgs, List.map_cons, List.map_nil, List.nil_append, List.append_nil, List.cons_append, Nat.reduceAdd, calleeA, beq_self_eq_true, decide_true, decide_false, h0, h1, h2, h8, la, lb, lenV_vs t36 hv']
      exact fin' (by omega)
  · simp -implicitDefEqProofs only [↓D_if, gD_true, gD_false, ↓D_a, ↓D_e, ↓D_call, ↓ndc_0, Hp.get_put, Hp.get_alloc, ldR_lst, List.getElem?_map, List.length_map, List.length_set, A_mksl, E_store, omap_some, omap_none, bndV_none, ↓lp_nrm, ↓lp_exit, ↓lp_ret, ↓C_skip, ↓C_reg, ↓C_dreg, ↓C_seq, ↓C_cond, ↓C_blk, ↓C_loop, ↓C_exit, ↓C_ret, ↓sq_nrm, ↓sq_exit, ↓sq_ret, ↓outB_nrm, ↓outB_ret, ↓outB_exit, ↓fin_nrm, ↓fin_ret, ↓fin_ret0, ↓fin_nrm0, ↓fin_ret2, ↓rd_nrm, ↓rd_exit, ↓rd_ret, ↓cIf_true, ↓cIf_false, ↓VO_nil, ↓VO_go, ↓VO_if, ↓nx_some, ↓nx_none, putD_some, putD_none, ↓V_p, ↓V_r, ↓V_a, ↓V_e, ↓V_call, ↓V_inv, ↓oQ_some, ↓oP_some, ↓oA_some, ↓oC_some, gO_true, gO_false, ↓gO_true, ↓gO_false, cIf_true, cIf_false, oQ_some, oP_some, oA_some, oC_some, oV_some,  reserve0, ↓D_nil, ↓D_p, ↓D_r, ↓nd_some, ↓ndr_some, ↓oV_some, ↓ev_rst, has_cons, has_nil, P_mv, P_pick, pickV_true, pickV_false, P_bin, P_un, P_cnv, cnvV_int, P_mkif, P_mkfn, P_fadr, P_fld, P_iadr, P_idx, P_len, P_mn, P_mx, foldV_two, mn2_int, mx2_int, unA_not, unA_neg, B_add, B_sub, B_mul, B_quo, B_rem, B_eql, B_neq, B_lss, B_leq, B_gtr, B_geq, R_load, wants_ev, gV_t, gV_f, ↓evPut, ↓ev_c, ↓ev_f, ↓ev_g, isC_t, isC_c, isC_f, isC_g, ↓reduceIte, Nat.reduceEqDiff, Nat.reduceBEq, Bool.or_self, Bool.or_false, Bool.or_true, Bool.false_or, Bool.true_or, Bool.and_true, Bool.and_false, Bool.true_and, Bool.false_and, Bool.not_true, Bool.not_false, Bool.false_eq_true, ofArgs, List.map_cons, List.map_nil, List.nil_append, List.append_nil, List.cons_append, Nat.reduceAdd, calleeA, beq_self_eq_true, decide_true, decide_false, h0, h1, h2, h8, la, lenV_vs t36 hv']
    exact fin' (by omega)
end Go.Proofs.YtaegmplbkbaniaaGreatDoor

