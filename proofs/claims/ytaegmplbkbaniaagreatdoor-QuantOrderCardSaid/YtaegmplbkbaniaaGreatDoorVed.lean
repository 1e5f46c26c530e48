/-
  fieldfarelaw7.VectEdges in the machine: it answers true. No condition.
-/
import Derived.Test.YtaegmplbkbaniaaGreatDoorOwn
import Derived.Test.YtaegmplbkbaniaaGreatDoorMay
import Derived.Test.YtaegmplbkbaniaaGreatDoorBegc
set_option linter.all false
namespace Go.Proofs.YtaegmplbkbaniaaGreatDoor
open Go
attribute [local irreducible] VO VC VD VD1 V1 nx nd ndr sq cIf gO oQ oP oA oC oV oIf oB fin rd' outB WC WF WO WD W1
set_option maxRecDepth 100000
/-! ### 8 -/
abbrev r8_0 : List Lo := [
  ⟨(some 6), (.p (.mv (.c (.bool false)))), none⟩]
abbrev r8_1 : List Lo := [
  ⟨(some 12), (.call (.f 18) []), none⟩,
  ⟨(some 7), (.p (.mv (.t 12))), none⟩]
abbrev r8_2 : List Lo := [
  ⟨(some 13), (.p (.mv (.t 7))), none⟩,
  ⟨(some 14), (.p (.un .not (.t 13))), none⟩]
abbrev r8_3 : List Lo := [
  ⟨(some 6), (.p (.mv (.c (.bool false)))), none⟩]
abbrev r8_4 : List Lo := [
  ⟨(some 15), (.p (.mv (.t 0))), none⟩,
  ⟨(some 16), (.call (.f 27) [(.t 15)]), none⟩,
  ⟨(some 0), (.p (.mv (.t 16))), none⟩]
abbrev r8_5 : List Lo := [
  ⟨(some 17), (.p (.mv (.t 1))), none⟩,
  ⟨(some 18), (.p (.mv (.t 0))), none⟩,
  ⟨(some 19), (.p (.bin .rem 3 (.t 17) (.t 18))), none⟩,
  ⟨(some 20), (.p (.mv (.t 0))), none⟩,
  ⟨(some 21), (.p (.bin .add 3 (.t 19) (.t 20))), none⟩,
  ⟨(some 22), (.p (.mv (.t 0))), none⟩,
  ⟨(some 23), (.p (.bin .rem 3 (.t 21) (.t 22))), none⟩,
  ⟨(some 1), (.p (.mv (.t 23))), none⟩]
abbrev r8_6 : List Lo := [
  ⟨(some 24), (.p (.mv (.t 2))), none⟩,
  ⟨(some 25), (.p (.bin .rem 21 (.t 24) (.c (.int .i32 3)))), none⟩,
  ⟨(some 2), (.p (.mv (.t 25))), none⟩]
abbrev r8_7 : List Lo := [
  ⟨(some 26), (.a (.bsl 37 2 [(0, (.c (.int .i32 (-1)))), (1, (.c (.int .i32 1)))])), none⟩,
  ⟨(some 27), (.p (.len 37 (.t 26))), none⟩,
  ⟨(some 28), (.p (.mv (.c (.int .i64 0)))), none⟩]
abbrev r8_8 : List Lo := [
  ⟨(some 29), (.p (.bin .lss 3 (.t 28) (.t 27))), none⟩]
abbrev r8_9 : List Lo := [
  ⟨(some 30), (.p (.iadr 37 (.t 26) (.t 28))), none⟩,
  ⟨(some 31), (.r (.load 21 (.t 30))), none⟩,
  ⟨(some 9), (.p (.mv (.t 31))), none⟩]
abbrev r8_10 : List Lo := [
  ⟨(some 32), (.p (.mv (.t 0))), none⟩,
  ⟨(some 33), (.a (.mksl 38 (.t 32) (.t 32))), none⟩,
  ⟨(some 10), (.p (.mv (.t 33))), none⟩]
abbrev r8_11 : List Lo := [
  ⟨(some 34), (.p (.mv (.t 10))), none⟩,
  ⟨(some 35), (.p (.mv (.t 1))), none⟩,
  ⟨(some 36), (.p (.mv (.t 9))), none⟩,
  ⟨(some 37), (.p (.bin .mul 21 (.t 36) (.c (.int .i32 1048576)))), none⟩,
  ⟨(some 38), (.p (.mv (.t 2))), none⟩,
  ⟨(some 39), (.p (.bin .add 21 (.t 37) (.t 38))), none⟩,
  ⟨(some 40), (.p (.iadr 38 (.t 34) (.t 35))), none⟩,
  ⟨none, (.e (.store 21 (.t 40) (.t 39))), none⟩]
abbrev r8_12 : List Lo := [
  ⟨(some 41), (.p (.mv (.t 10))), none⟩,
  ⟨(some 42), (.p (.mv (.t 0))), none⟩,
  ⟨(some 43), (.call (.f 32) [(.t 41), (.t 42)]), none⟩,
  ⟨(some 44), (.p (.mv (.t 9))), none⟩,
  ⟨(some 45), (.p (.mv (.t 2))), none⟩,
  ⟨(some 46), (.p (.bin .mul 21 (.t 44) (.t 45))), none⟩,
  ⟨(some 47), (.p (.bin .leq 21 (.t 46) (.c (.int .i32 0)))), none⟩,
  ⟨(some 48), (.p (.bin .neq 4 (.t 43) (.t 47))), none⟩]
abbrev r8_13 : List Lo := [
  ⟨(some 6), (.p (.mv (.c (.bool false)))), none⟩]
abbrev r8_14 : List Lo := [
  ⟨(some 49), (.p (.bin .add 3 (.t 28) (.c (.int .i64 1)))), none⟩,
  ⟨(some 28), (.p (.mv (.t 49))), none⟩]
def l8_15 : Ac := (.seq (.reg r8_8) (.seq (.cond (.t 29) .skip (.exit 0)) (.seq (.blk 1 (.seq (.reg r8_9) (.seq (.reg r8_10) (.seq (.reg r8_11) (.seq (.reg r8_12) (.cond (.t 48) (.seq (.reg r8_13) .ret) .skip)))))) (.reg r8_14))))
abbrev r8_16 : List Lo := [
  ⟨(some 50), (.p (.mv (.t 0))), none⟩,
  ⟨(some 51), (.a (.mksl 38 (.t 50) (.t 50))), none⟩,
  ⟨(some 11), (.p (.mv (.t 51))), none⟩]
abbrev r8_17 : List Lo := [
  ⟨(some 52), (.p (.mv (.t 11))), none⟩,
  ⟨(some 53), (.p (.mv (.t 0))), none⟩,
  ⟨(some 54), (.call (.f 32) [(.t 52), (.t 53)]), none⟩,
  ⟨(some 55), (.p (.mv (.t 54))), none⟩,
  ⟨(some 56), (.p (.mv (.t 11))), (some (55, true))⟩,
  ⟨(some 57), (.p (.mv (.t 0))), (some (55, true))⟩,
  ⟨(some 58), (.p (.bin .add 3 (.t 57) (.c (.int .i64 1)))), (some (55, true))⟩,
  ⟨(some 59), (.call (.f 32) [(.t 56), (.t 58)]), (some (55, true))⟩,
  ⟨(some 60), (.p (.un .not (.t 59))), (some (55, true))⟩,
  ⟨(some 61), (.p (.pick (.t 55) (.t 60) (.c (.bool false)))), none⟩,
  ⟨(some 62), (.p (.mv (.t 61))), none⟩,
  ⟨(some 63), (.p (.mv (.t 11))), (some (62, true))⟩,
  ⟨(some 64), (.p (.mv (.t 0))), (some (62, true))⟩,
  ⟨(some 65), (.p (.bin .sub 3 (.t 64) (.c (.int .i64 1)))), (some (62, true))⟩,
  ⟨(some 66), (.call (.f 32) [(.t 63), (.t 65)]), (some (62, true))⟩,
  ⟨(some 67), (.p (.un .not (.t 66))), (some (62, true))⟩,
  ⟨(some 68), (.p (.pick (.t 62) (.t 67) (.c (.bool false)))), none⟩,
  ⟨(some 69), (.p (.mv (.t 68))), none⟩,
  ⟨(some 70), (.p (.mv (.t 11))), (some (69, true))⟩,
  ⟨(some 71), (.p (.mv (.t 0))), (some (69, true))⟩,
  ⟨(some 72), (.p (.bin .sub 3 (.t 71) (.c (.int .i64 1)))), (some (69, true))⟩,
  ⟨(some 73), (.p (.slc 38 (.t 70) none (some (.t 72)) none)), (some (69, true))⟩,
  ⟨(some 74), (.p (.mv (.t 0))), (some (69, true))⟩,
  ⟨(some 75), (.call (.f 32) [(.t 73), (.t 74)]), (some (69, true))⟩,
  ⟨(some 76), (.p (.un .not (.t 75))), (some (69, true))⟩,
  ⟨(some 77), (.p (.pick (.t 69) (.t 76) (.c (.bool false)))), none⟩,
  ⟨(some 6), (.p (.mv (.t 77))), none⟩]
def c8 : AFun := ⟨(.seq (.reg r8_0) (.seq (.reg r8_1) (.seq (.seq (.reg r8_2) (.cond (.t 14) (.seq (.reg r8_3) .ret) .skip)) (.seq (.reg r8_4) (.seq (.reg r8_5) (.seq (.reg r8_6) (.seq (.seq (.reg r8_7) (.blk 0 (.loop l8_15))) (.seq (.reg r8_16) (.seq (.reg r8_17) .ret))))))))), [.t 6], 78⟩
theorem p8 : progOf Tryz.prog 8 = some c8 := by kernel_rfl

set_option maxRecDepth 2000
theorem bsl_two {E : Env} {t : Tr Value} {T e b1 b2 : Nat} {z : Option (List Value)} {c c2 : Bool} {ke : IntKind} (hT : E.ty T = some ⟨.slc e, 1, b1, z, c⟩) (he : E.ty e = some ⟨.int ke, 1, b2, some [.int ke 0], c2⟩) (x y : Od) (k1 k2 : IntKind) (n m : Int) (hx : x.ev t = .int k1 n) (hy : y.ev t = .int k2 m) :
    allocA E t (.bsl T 2 [(0, x), (1, y)]) = some (.row (.lst [.int k1 n, .int k2 m]) 0 true, fun i => .slice (some ⟨i, 0, some 3⟩) 2 2) := by
  simp only [allocA, hT, he, parts, hx, hy]
  rfl
theorem closed_run {H : Hp} (hd : hasDoor H = true) (hn : 2 ≤ H.n) : closedA (.bool true) [] H = some (.bool true, H) := by
  unfold closedA
  rw [hd, Nat.ble_eq_true_of_le hn]
theorem tmod_lt (a : Int) {d : Int} (h : 0 < d) : -d < a.tmod d ∧ a.tmod d < d := by
  refine ⟨?_, Int.tmod_lt_of_pos _ h⟩
  have := Int.tmod_lt_of_pos (-a) h
  rw [Int.neg_tmod] at this
  omega
theorem dimF_le (n : Int) : 1 ≤ dimF n ∧ dimF n ≤ 8 := by
  unfold dimF
  have h1 : -8 < n.tmod 8 ∧ n.tmod 8 < 8 := tmod_lt n (by decide)
  have e1 : w64 (n.tmod 8 + 8) = n.tmod 8 + 8 := wrap64_id (by omega) (by omega)
  rw [e1]
  have h2 : 0 ≤ (n.tmod 8 + 8).tmod 8 := Int.tmod_nonneg _ (by omega)
  have h3 : (n.tmod 8 + 8).tmod 8 < 8 := Int.tmod_lt_of_pos _ (by decide)
  rw [show w64 (1 + (n.tmod 8 + 8).tmod 8) = 1 + (n.tmod 8 + 8).tmod 8 from wrap64_id (by omega) (by omega)]
  omega
theorem modF_le (a : Int) {d : Int} (h1 : 0 < d) (h2 : d ≤ 4611686018427387904) : 0 ≤ (w64 (a.tmod d + d)).tmod d ∧ (w64 (a.tmod d + d)).tmod d < d := by
  have h3 : -d < a.tmod d ∧ a.tmod d < d := tmod_lt a h1
  have e1 : w64 (a.tmod d + d) = a.tmod d + d := wrap64_id (by omega) (by omega)
  rw [e1]
  exact ⟨Int.tmod_nonneg _ (by omega), Int.tmod_lt_of_pos _ h1⟩
theorem fit_rep {n : Nat} : ∀ z ∈ List.replicate n (0 : Int), IntKind.i32.wrap z = z := fun z hz => by
  rw [List.mem_replicate] at hz; rw [hz.2]; rfl
theorem may_one {d j : Nat} (h1 : 1 ≤ d) (h8 : d ≤ 8) (hj : j < d) (x : Int) : mayL ((List.replicate d 0).set j x) d = (decide (-1048576 ≤ x) && decide (x ≤ 1048576)) := by
  unfold mayL
  rw [List.length_set, List.length_replicate, decide_eq_true (by omega : (1 : Int) ≤ d), decide_eq_true (by omega : (d : Int) ≤ 8), decide_eq_true rfl]
  have : ((List.replicate d 0).set j x).any farZ = farZ x := by
    rw [Bool.eq_iff_iff, List.any_eq_true]
    constructor
    · rintro ⟨z, hz, hf⟩
      rcases List.mem_or_eq_of_mem_set hz with h | h
      · rw [List.mem_replicate] at h; rw [h.2] at hf; exact absurd hf (by decide)
      · rw [← h]; exact hf
    · intro hf
      exact ⟨x, List.mem_set (by simpa using hj) x, hf⟩
  rw [this]
  unfold farZ
  by_cases a1 : x < -1048576
  · simp [a1]; try omega
  · by_cases a2 : 1048576 < x
    · simp [a2]
    · simp [a1, a2]; omega
theorem may_zero (d : Nat) (e : Int) (h1 : 1 ≤ d) (h8 : d ≤ 8) : mayL (List.replicate d 0) e = decide ((d : Int) = e) := by
  unfold mayL
  have : (List.replicate d (0 : Int)).any farZ = false := by
    rw [List.any_eq_false]; intro z hz; rw [List.mem_replicate] at hz; rw [hz.2]; decide
  rw [this, List.length_replicate]
  by_cases h : (d : Int) = e
  · subst h
    rw [decide_eq_true (by omega : (1 : Int) ≤ (d : Int)), decide_eq_true (by omega : (d : Int) ≤ 8), decide_eq_true rfl]; rfl
  · simp [h]
def ext8 : FuncId → Option GF := ext1 18 (closedA (.bool true)) (ext1 27 g27 (ext1 32 g32 ext0))
theorem ext8_ok : ∀ f g, ext8 f = some g → FnOk Tryz.prog g f := ext1_ok ok18 (ext1_ok ok27 (ext1_ok ok32 ext0_ok))
theorem g32_run {H : Hp} {v : Value} {zs : List Int} (hv : IsSl .i32 H v zs) (hl : zs.length < 9223372036854775807) (d : Int) : g32 [v, .int .i64 d] H = some (.bool (mayL zs d), H) := by
  unfold g32
  simp only [hv.rd]
  rw [if_pos hl]
set_option maxHeartbeats 2000000 in
theorem wf8 {H : Hp} (hwf : Wf H) (hd : hasDoor H = true) (hn : 2 ≤ H.n) (n a o : Int) : WF (envT ext8) 8 [.int .i64 n, .int .i64 a, .int .i32 o] H fun v _ => v = .bool true := by
  refine WF.go rfl p8 rfl ?_
  have t38 : (envT ext8).ty 38 = _ := ty38
  have t37 : (envT ext8).ty 37 = _ := ty37
  have t21 : (envT ext8).ty 21 = _ := ty21
  have t4 : (envT ext8).ty 4 = _ := ty4
  unfold c8
  simp -implicitDefEqProofs only [↓D_if, gD_true, gD_false, ↓D_a, ↓D_e, ↓D_call, ↓ndc_0, Hp.get_put, Hp.get_alloc, ldR_lst, List.getElem?_map, List.length_map, List.length_set, A_mksl, E_store, omap_some, omap_none, bndV_none, ↓lp_nrm, ↓lp_exit, ↓lp_ret, ↓C_skip, ↓C_reg, ↓C_dreg, ↓C_seq, ↓C_cond, ↓C_blk, ↓C_loop, ↓C_exit, ↓C_ret, ↓sq_nrm, ↓sq_exit, ↓sq_ret, ↓outB_nrm, ↓outB_ret, ↓outB_exit, ↓fin_nrm, ↓fin_ret, ↓fin_ret0, ↓fin_nrm0, ↓fin_ret2, ↓rd_nrm, ↓rd_exit, ↓rd_ret, ↓cIf_true, ↓cIf_false, ↓VO_nil, ↓VO_go, ↓VO_if, ↓nx_some, ↓nx_none, putD_some, putD_none, ↓V_p, ↓V_r, ↓V_a, ↓V_e, ↓V_call, ↓V_inv, ↓oQ_some, ↓oP_some, ↓oA_some, ↓oC_some, gO_true, gO_false, ↓gO_true, ↓gO_false, cIf_true, cIf_false, oQ_some, oP_some, oA_some, oC_some, oV_some,  reserve0, ↓D_nil, ↓D_p, ↓D_r, ↓nd_some, ↓ndr_some, ↓oV_some, ↓ev_rst, has_cons, has_nil, P_mv, P_pick, pickV_true, pickV_false, P_bin, P_un, P_cnv, cnvV_int, P_mkif, P_mkfn, P_fadr, P_fld, P_iadr, P_idx, P_len, P_mn, P_mx, foldV_two, mn2_int, mx2_int, unA_not, unA_neg, B_add, B_sub, B_mul, B_quo, B_rem, B_eql, B_neq, B_lss, B_leq, B_gtr, B_geq, R_load, wants_ev, gV_t, gV_f, ↓evPut, ↓ev_c, ↓ev_f, ↓ev_g, isC_t, isC_c, isC_f, isC_g, ↓reduceIte, Nat.reduceEqDiff, Nat.reduceBEq, Bool.or_self, Bool.or_false, Bool.or_true, Bool.false_or, Bool.true_or, Bool.and_true, Bool.and_false, Bool.true_and, Bool.false_and, Bool.not_true, Bool.not_false, Bool.false_eq_true, ofArgs, List.map_cons, List.map_nil, List.nil_append, List.append_nil, List.cons_append, Nat.reduceAdd, calleeA, beq_self_eq_true, decide_true, decide_false]
  refine WF.ext rfl (closed_run hd hn) ?_
  simp -implicitDefEqProofs only [↓D_if, gD_true, gD_false, ↓D_a, ↓D_e, ↓D_call, ↓ndc_0, Hp.get_put, Hp.get_alloc, ldR_lst, List.getElem?_map, List.length_map, List.length_set, A_mksl, E_store, omap_some, omap_none, bndV_none, ↓lp_nrm, ↓lp_exit, ↓lp_ret, ↓C_skip, ↓C_reg, ↓C_dreg, ↓C_seq, ↓C_cond, ↓C_blk, ↓C_loop, ↓C_exit, ↓C_ret, ↓sq_nrm, ↓sq_exit, ↓sq_ret, ↓outB_nrm, ↓outB_ret, ↓outB_exit, ↓fin_nrm, ↓fin_ret, ↓fin_ret0, ↓fin_nrm0, ↓fin_ret2, ↓rd_nrm, ↓rd_exit, ↓rd_ret, ↓cIf_true, ↓cIf_false, ↓VO_nil, ↓VO_go, ↓VO_if, ↓nx_some, ↓nx_none, putD_some, putD_none, ↓V_p, ↓V_r, ↓V_a, ↓V_e, ↓V_call, ↓V_inv, ↓oQ_some, ↓oP_some, ↓oA_some, ↓oC_some, gO_true, gO_false, ↓gO_true, ↓gO_false, cIf_true, cIf_false, oQ_some, oP_some, oA_some, oC_some, oV_some,  reserve0, ↓D_nil, ↓D_p, ↓D_r, ↓nd_some, ↓ndr_some, ↓oV_some, ↓ev_rst, has_cons, has_nil, P_mv, P_pick, pickV_true, pickV_false, P_bin, P_un, P_cnv, cnvV_int, P_mkif, P_mkfn, P_fadr, P_fld, P_iadr, P_idx, P_len, P_mn, P_mx, foldV_two, mn2_int, mx2_int, unA_not, unA_neg, B_add, B_sub, B_mul, B_quo, B_rem, B_eql, B_neq, B_lss, B_leq, B_gtr, B_geq, R_load, wants_ev, gV_t, gV_f, ↓evPut, ↓ev_c, ↓ev_f, ↓ev_g, isC_t, isC_c, isC_f, isC_g, ↓reduceIte, Nat.reduceEqDiff, Nat.reduceBEq, Bool.or_self, Bool.or_false, Bool.or_true, Bool.false_or, Bool.true_or, Bool.and_true, Bool.and_false, Bool.true_and, Bool.false_and, Bool.not_true, Bool.not_false, Bool.false_eq_true, ofArgs, List.map_cons, List.map_nil, List.nil_append, List.append_nil, List.cons_append, Nat.reduceAdd, calleeA, beq_self_eq_true, decide_true, decide_false]
  refine WF.ext (g := g27) rfl rfl ?_
  obtain ⟨d, hdd⟩ : ∃ d : Nat, dimF n = d := Int.eq_ofNat_of_zero_le (Int.le_trans (by decide) (dimF_le n).1)
  have hd18 := dimF_le n
  rw [hdd] at hd18 ⊢
  have d0 : ¬ ((d : Int) = 0) := by omega
  have ha := modF_le a (d := d) (by omega) (by omega)
  obtain ⟨j, hj⟩ : ∃ j : Nat, (w64 (a.tmod d + d)).tmod d = j := Int.eq_ofNat_of_zero_le ha.1
  have hjd : j < d := by rw [hj] at ha; omega
  have hw : ∀ q, IntKind.i64.wrap q = w64 q := fun _ => rfl
  obtain ⟨f, hf⟩ : ∃ f, o.tmod 3 = f := ⟨_, rfl⟩
  have hf3 : -3 < f ∧ f < 3 := by rw [← hf]; exact tmod_lt o (by decide)
  simp -implicitDefEqProofs only [↓D_if, gD_true, gD_false, ↓D_a, ↓D_e, ↓D_call, ↓ndc_0, Hp.get_put, Hp.get_alloc, ldR_lst, List.getElem?_map, List.length_map, List.length_set, A_mksl, E_store, omap_some, omap_none, bndV_none, ↓lp_nrm, ↓lp_exit, ↓lp_ret, ↓C_skip, ↓C_reg, ↓C_dreg, ↓C_seq, ↓C_cond, ↓C_blk, ↓C_loop, ↓C_exit, ↓C_ret, ↓sq_nrm, ↓sq_exit, ↓sq_ret, ↓outB_nrm, ↓outB_ret, ↓outB_exit, ↓fin_nrm, ↓fin_ret, ↓fin_ret0, ↓fin_nrm0, ↓fin_ret2, ↓rd_nrm, ↓rd_exit, ↓rd_ret, ↓cIf_true, ↓cIf_false, ↓VO_nil, ↓VO_go, ↓VO_if, ↓nx_some, ↓nx_none, putD_some, putD_none, ↓V_p, ↓V_r, ↓V_a, ↓V_e, ↓V_call, ↓V_inv, ↓oQ_some, ↓oP_some, ↓oA_some, ↓oC_some, gO_true, gO_false, ↓gO_true, ↓gO_false, cIf_true, cIf_false, oQ_some, oP_some, oA_some, oC_some, oV_some,  reserve0, ↓D_nil, ↓D_p, ↓D_r, ↓nd_some, ↓ndr_some, ↓oV_some, ↓ev_rst, has_cons, has_nil, P_mv, P_pick, pickV_true, pickV_false, P_bin, P_un, P_cnv, cnvV_int, P_mkif, P_mkfn, P_fadr, P_fld, P_iadr, P_idx, P_len, P_mn, P_mx, foldV_two, mn2_int, mx2_int, unA_not, unA_neg, B_add, B_sub, B_mul, B_quo, B_rem, B_eql, B_neq, B_lss, B_leq, B_gtr, B_geq, R_load, wants_ev, gV_t, gV_f, ↓evPut, ↓ev_c, ↓ev_f, ↓ev_g, isC_t, isC_c, isC_f, isC_g, ↓reduceIte, Nat.reduceEqDiff, Nat.reduceBEq, Bool.or_self, Bool.or_false, Bool.or_true, Bool.false_or, Bool.true_or, Bool.and_true, Bool.and_false, Bool.true_and, Bool.false_and, Bool.not_true, Bool.not_false, Bool.false_eq_true, ofArgs, List.map_cons, List.map_nil, List.nil_append, List.append_nil, List.cons_append, Nat.reduceAdd, calleeA, beq_self_eq_true, decide_true, decide_false, d0, if_false, hw, hj, Int.reduceEq, hf]
  clear ha hj hf hdd hw
  rw [bsl_two t37 t21 _ _ .i32 .i32 (-1) 1 rfl rfl]
  have hS : IsSl .i32 (H.alloc (.row (.lst ([-1, 1].map (Value.int .i32))) 0 true)) (.slice (some ⟨H.n, 0, some 3⟩) 2 2) [-1, 1] :=
    IsSl.own (Hp.get_alloc_same _ _) (.inr rfl) (Nat.le_refl _) (by decide)
  simp -implicitDefEqProofs only [↓D_if, gD_true, gD_false, ↓D_a, ↓D_e, ↓D_call, ↓ndc_0, Hp.get_put, Hp.get_alloc, ldR_lst, List.getElem?_map, List.length_map, List.length_set, A_mksl, E_store, omap_some, omap_none, bndV_none, ↓lp_nrm, ↓lp_exit, ↓lp_ret, ↓C_skip, ↓C_reg, ↓C_dreg, ↓C_seq, ↓C_cond, ↓C_blk, ↓C_loop, ↓C_exit, ↓C_ret, ↓sq_nrm, ↓sq_exit, ↓sq_ret, ↓outB_nrm, ↓outB_ret, ↓outB_exit, ↓fin_nrm, ↓fin_ret, ↓fin_ret0, ↓fin_nrm0, ↓fin_ret2, ↓rd_nrm, ↓rd_exit, ↓rd_ret, ↓cIf_true, ↓cIf_false, ↓VO_nil, ↓VO_go, ↓VO_if, ↓nx_some, ↓nx_none, putD_some, putD_none, ↓V_p, ↓V_r, ↓V_a, ↓V_e, ↓V_call, ↓V_inv, ↓oQ_some, ↓oP_some, ↓oA_some, ↓oC_some, gO_true, gO_false, ↓gO_true, ↓gO_false, cIf_true, cIf_false, oQ_some, oP_some, oA_some, oC_some, oV_some,  reserve0, ↓D_nil, ↓D_p, ↓D_r, ↓nd_some, ↓ndr_some, ↓oV_some, ↓ev_rst, has_cons, has_nil, P_mv, P_pick, pickV_true, pickV_false, P_bin, P_un, P_cnv, cnvV_int, P_mkif, P_mkfn, P_fadr, P_fld, P_iadr, P_idx, P_len, P_mn, P_mx, foldV_two, mn2_int, mx2_int, unA_not, unA_neg, B_add, B_sub, B_mul, B_quo, B_rem, B_eql, B_neq, B_lss, B_leq, B_gtr, B_geq, R_load, wants_ev, gV_t, gV_f, ↓evPut, ↓ev_c, ↓ev_f, ↓ev_g, isC_t, isC_c, isC_f, isC_g, ↓reduceIte, Nat.reduceEqDiff, Nat.reduceBEq, Bool.or_self, Bool.or_false, Bool.or_true, Bool.false_or, Bool.true_or, Bool.and_true, Bool.and_false, Bool.true_and, Bool.false_and, Bool.not_true, Bool.not_false, Bool.false_eq_true, ofArgs, List.map_cons, List.map_nil, List.nil_append, List.append_nil, List.cons_append, Nat.reduceAdd, calleeA, beq_self_eq_true, decide_true, decide_false, lenV_sl t37 hS]
  refine VC.loop (fun k t H' => Wf H' ∧ ∃ i : Nat, i + k = 2 ∧ IsSl .i32 H' (.slice (some ⟨H.n, 0, some 3⟩) 2 2) [-1, 1] ∧ Od.ev t (.t 0) = .int .i64 d ∧ Od.ev t (.t 1) = .int .i64 j ∧ Od.ev t (.t 2) = .int .i32 f ∧
    Od.ev t (.t 26) = .slice (some ⟨H.n, 0, some 3⟩) 2 2 ∧ Od.ev t (.t 27) = .int .i64 ((2 : Nat) : Int) ∧ Od.ev t (.t 28) = .int .i64 i) (fun k t H' h => ?_) (d := 2)
    ⟨hwf.alloc _, 0, rfl, hS, by simp only [↓evPut, ↓ev_c, ↓reduceIte, Nat.reduceEqDiff], by simp only [↓evPut, ↓ev_c, ↓reduceIte, Nat.reduceEqDiff], by simp only [↓evPut, ↓ev_c, ↓reduceIte, Nat.reduceEqDiff], by simp only [↓evPut, ↓ev_c, ↓reduceIte, Nat.reduceEqDiff], by simp only [↓evPut, ↓ev_c, ↓reduceIte, Nat.reduceEqDiff]; rfl, by simp only [↓evPut, ↓ev_c, ↓reduceIte, Nat.reduceEqDiff]; rfl⟩
  obtain ⟨w1, i, hik, hS', h0, h1, h2, h26, h27, h28⟩ := h
  clear hS
  unfold l8_15
  simp -implicitDefEqProofs only [↓D_if, gD_true, gD_false, ↓D_a, ↓D_e, ↓D_call, ↓ndc_0, Hp.get_put, Hp.get_alloc, ldR_lst, List.getElem?_map, List.length_map, List.length_set, A_mksl, E_store, omap_some, omap_none, bndV_none, ↓lp_nrm, ↓lp_exit, ↓lp_ret, ↓C_skip, ↓C_reg, ↓C_dreg, ↓C_seq, ↓C_cond, ↓C_blk, ↓C_loop, ↓C_exit, ↓C_ret, ↓sq_nrm, ↓sq_exit, ↓sq_ret, ↓outB_nrm, ↓outB_ret, ↓outB_exit, ↓fin_nrm, ↓fin_ret, ↓fin_ret0, ↓fin_nrm0, ↓fin_ret2, ↓rd_nrm, ↓rd_exit, ↓rd_ret, ↓cIf_true, ↓cIf_false, ↓VO_nil, ↓VO_go, ↓VO_if, ↓nx_some, ↓nx_none, putD_some, putD_none, ↓V_p, ↓V_r, ↓V_a, ↓V_e, ↓V_call, ↓V_inv, ↓oQ_some, ↓oP_some, ↓oA_some, ↓oC_some, gO_true, gO_false, ↓gO_true, ↓gO_false, cIf_true, cIf_false, oQ_some, oP_some, oA_some, oC_some, oV_some,  reserve0, ↓D_nil, ↓D_p, ↓D_r, ↓nd_some, ↓ndr_some, ↓oV_some, ↓ev_rst, has_cons, has_nil, P_mv, P_pick, pickV_true, pickV_false, P_bin, P_un, P_cnv, cnvV_int, P_mkif, P_mkfn, P_fadr, P_fld, P_iadr, P_idx, P_len, P_mn, P_mx, foldV_two, mn2_int, mx2_int, unA_not, unA_neg, B_add, B_sub, B_mul, B_quo, B_rem, B_eql, B_neq, B_lss, B_leq, B_gtr, B_geq, R_load, wants_ev, gV_t, gV_f, ↓evPut, ↓ev_c, ↓ev_f, ↓ev_g, isC_t, isC_c, isC_f, isC_g, ↓reduceIte, Nat.reduceEqDiff, Nat.reduceBEq, Bool.or_self, Bool.or_false, Bool.or_true, Bool.false_or, Bool.true_or, Bool.and_true, Bool.and_false, Bool.true_and, Bool.false_and, Bool.not_true, Bool.not_false, Bool.false_eq_true, ofArgs, List.map_cons, List.map_nil, List.nil_append, List.append_nil, List.cons_append, Nat.reduceAdd, calleeA, beq_self_eq_true, decide_true, decide_false, h28, h27]
  have dn : ((d : Int)).toNat = d := Int.toNat_natCast d
  by_cases hi : i < 2
  · rw [cIf_yes (by omega)]
    have wi := wrapSucc (i := i) (by omega)
    obtain ⟨sg, hsg⟩ : ∃ sg, ([-1, 1] : List Int).getD i 0 = sg := ⟨_, rfl⟩
    have hsg2 : sg = -1 ∨ sg = 1 := by
      rcases (by omega : i = 0 ∨ i = 1) with rfl | rfl
      · left; rw [← hsg]; rfl
      · right; rw [← hsg]; rfl
    have hx : IntKind.i32.wrap (IntKind.i32.wrap (sg * 1048576) + f) = sg * 1048576 + f := by rw [wrap32_id (z := sg * 1048576) (by omega) (by omega), wrap32_id (by omega) (by omega)]
    have hy : IntKind.i32.wrap (sg * f) = sg * f := by rcases hsg2 with rfl | rfl <;> exact wrap32_id (by omega) (by omega)
    simp -implicitDefEqProofs only [↓D_if, gD_true, gD_false, ↓D_a, ↓D_e, ↓D_call, ↓ndc_0, Hp.get_put, Hp.get_alloc, ldR_lst, List.getElem?_map, List.length_map, List.length_set, A_mksl, E_store, omap_some, omap_none, bndV_none, ↓lp_nrm, ↓lp_exit, ↓lp_ret, ↓C_skip, ↓C_reg, ↓C_dreg, ↓C_seq, ↓C_cond, ↓C_blk, ↓C_loop, ↓C_exit, ↓C_ret, ↓sq_nrm, ↓sq_exit, ↓sq_ret, ↓outB_nrm, ↓outB_ret, ↓outB_exit, ↓fin_nrm, ↓fin_ret, ↓fin_ret0, ↓fin_nrm0, ↓fin_ret2, ↓rd_nrm, ↓rd_exit, ↓rd_ret, ↓cIf_true, ↓cIf_false, ↓VO_nil, ↓VO_go, ↓VO_if, ↓nx_some, ↓nx_none, putD_some, putD_none, ↓V_p, ↓V_r, ↓V_a, ↓V_e, ↓V_call, ↓V_inv, ↓oQ_some, ↓oP_some, ↓oA_some, ↓oC_some, gO_true, gO_false, ↓gO_true, ↓gO_false, cIf_true, cIf_false, oQ_some, oP_some, oA_some, oC_some, oV_some,  reserve0, ↓D_nil, ↓D_p, ↓D_r, ↓nd_some, ↓ndr_some, ↓oV_some, ↓ev_rst, has_cons, has_nil, P_mv, P_pick, pickV_true, pickV_false, P_bin, P_un, P_cnv, cnvV_int, P_mkif, P_mkfn, P_fadr, P_fld, P_iadr, P_idx, P_len, P_mn, P_mx, foldV_two, mn2_int, mx2_int, unA_not, unA_neg, B_add, B_sub, B_mul, B_quo, B_rem, B_eql, B_neq, B_lss, B_leq, B_gtr, B_geq, R_load, wants_ev, gV_t, gV_f, ↓evPut, ↓ev_c, ↓ev_f, ↓ev_g, isC_t, isC_c, isC_f, isC_g, ↓reduceIte, Nat.reduceEqDiff, Nat.reduceBEq, Bool.or_self, Bool.or_false, Bool.or_true, Bool.false_or, Bool.true_or, Bool.and_true, Bool.and_false, Bool.true_and, Bool.false_and, Bool.not_true, Bool.not_false, Bool.false_eq_true, ofArgs, List.map_cons, List.map_nil, List.nil_append, List.append_nil, List.cons_append, Nat.reduceAdd, calleeA, beq_self_eq_true, decide_true, decide_false, h0, h1, h2, h26, h27, h28, iadr_sl t37 t21 hS' (Int.natCast_nonneg i) (by show (i : Int) < 2; omega), Int.toNat_natCast, load_sl t21 hS' (show i < 2 from hi), hsg,
      mkV_int t38 t21 (by decide) (Int.natCast_nonneg d) (by omega : (d : Int) ≤ 512), dn, hx, hy]
    have hV : IsSl .i32 (H'.alloc (.row (.lst ((List.replicate d 0).map (Value.int .i32))) 0 true)) (.slice (some ⟨H'.n, 0, some 3⟩) d d) (List.replicate d 0) := by
      have := IsSl.own (k := .i32) (zs := List.replicate d 0) (cap := d) (Hp.get_alloc_same H' (.row (.lst ((List.replicate d 0).map (Value.int .i32))) 0 true)) (.inr rfl) (by simp) fit_rep
      simpa using this
    simp -implicitDefEqProofs only [↓D_if, gD_true, gD_false, ↓D_a, ↓D_e, ↓D_call, ↓ndc_0, Hp.get_put, Hp.get_alloc, ldR_lst, List.getElem?_map, List.length_map, List.length_set, A_mksl, E_store, omap_some, omap_none, bndV_none, ↓lp_nrm, ↓lp_exit, ↓lp_ret, ↓C_skip, ↓C_reg, ↓C_dreg, ↓C_seq, ↓C_cond, ↓C_blk, ↓C_loop, ↓C_exit, ↓C_ret, ↓sq_nrm, ↓sq_exit, ↓sq_ret, ↓outB_nrm, ↓outB_ret, ↓outB_exit, ↓fin_nrm, ↓fin_ret, ↓fin_ret0, ↓fin_nrm0, ↓fin_ret2, ↓rd_nrm, ↓rd_exit, ↓rd_ret, ↓cIf_true, ↓cIf_false, ↓VO_nil, ↓VO_go, ↓VO_if, ↓nx_some, ↓nx_none, putD_some, putD_none, ↓V_p, ↓V_r, ↓V_a, ↓V_e, ↓V_call, ↓V_inv, ↓oQ_some, ↓oP_some, ↓oA_some, ↓oC_some, gO_true, gO_false, ↓gO_true, ↓gO_false, cIf_true, cIf_false, oQ_some, oP_some, oA_some, oC_some, oV_some,  reserve0, ↓D_nil, ↓D_p, ↓D_r, ↓nd_some, ↓ndr_some, ↓oV_some, ↓ev_rst, has_cons, has_nil, P_mv, P_pick, pickV_true, pickV_false, P_bin, P_un, P_cnv, cnvV_int, P_mkif, P_mkfn, P_fadr, P_fld, P_iadr, P_idx, P_len, P_mn, P_mx, foldV_two, mn2_int, mx2_int, unA_not, unA_neg, B_add, B_sub, B_mul, B_quo, B_rem, B_eql, B_neq, B_lss, B_leq, B_gtr, B_geq, R_load, wants_ev, gV_t, gV_f, ↓evPut, ↓ev_c, ↓ev_f, ↓ev_g, isC_t, isC_c, isC_f, isC_g, ↓reduceIte, Nat.reduceEqDiff, Nat.reduceBEq, Bool.or_self, Bool.or_false, Bool.or_true, Bool.false_or, Bool.true_or, Bool.and_true, Bool.and_false, Bool.true_and, Bool.false_and, Bool.not_true, Bool.not_false, Bool.false_eq_true, ofArgs, List.map_cons, List.map_nil, List.nil_append, List.append_nil, List.cons_append, Nat.reduceAdd, calleeA, beq_self_eq_true, decide_true, decide_false, h0, h1, h2, h26, h27, h28, iadr_sl t38 t21 hV (Int.natCast_nonneg j) (by rw [List.length_replicate]; omega), Int.toNat_natCast,
      storeV_own t21 (Hp.get_alloc_same H' _) (show j < (List.replicate d (0 : Int)).length by rw [List.length_replicate]; exact hjd), Hp.alloc_put, hx, hy]
    have hV2 : IsSl .i32 (H'.alloc (.row (.lst (((List.replicate d 0).set j (sg * 1048576 + f)).map (Value.int .i32))) 0 true)) (.slice (some ⟨H'.n, 0, some 3⟩) d d) ((List.replicate d 0).set j (sg * 1048576 + f)) := by
      have := IsSl.own (k := .i32) (zs := (List.replicate d 0).set j (sg * 1048576 + f)) (cap := d) (Hp.get_alloc_same H' (.row (.lst (((List.replicate d 0).set j (sg * 1048576 + f)).map (Value.int .i32))) 0 true)) (.inr rfl) (by simp) (fun z hz => by
        rcases List.mem_or_eq_of_mem_set hz with h | h
        · exact fit_rep z h
        · rw [h]; exact wrap32_id (by omega) (by omega))
      simpa using this
    refine WF.ext (g := g32) rfl (g32_run hV2 (by simp; omega) d) ?_
    rw [may_one (by omega) (by omega) hjd]
    have hb : (decide (-1048576 ≤ sg * 1048576 + f) && decide (sg * 1048576 + f ≤ 1048576)) = decide (sg * f ≤ 0) := by
      rw [Bool.eq_iff_iff]; simp only [Bool.and_eq_true, decide_eq_true_eq]
      rcases hsg2 with rfl | rfl <;> omega
    rw [hb]
    simp -implicitDefEqProofs only [↓D_if, gD_true, gD_false, ↓D_a, ↓D_e, ↓D_call, ↓ndc_0, Hp.get_put, Hp.get_alloc, ldR_lst, List.getElem?_map, List.length_map, List.length_set, A_mksl, E_store, omap_some, omap_none, bndV_none, ↓lp_nrm, ↓lp_exit, ↓lp_ret, ↓C_skip, ↓C_reg, ↓C_dreg, ↓C_seq, ↓C_cond, ↓C_blk, ↓C_loop, ↓C_exit, ↓C_ret, ↓sq_nrm, ↓sq_exit, ↓sq_ret, ↓outB_nrm, ↓outB_ret, ↓outB_exit, ↓fin_nrm, ↓fin_ret, ↓fin_ret0, ↓fin_nrm0, ↓fin_ret2, ↓rd_nrm, ↓rd_exit, ↓rd_ret, ↓cIf_true, ↓cIf_false, ↓VO_nil, ↓VO_go, ↓VO_if, ↓nx_some, ↓nx_none, putD_some, putD_none, ↓V_p, ↓V_r, ↓V_a, ↓V_e, ↓V_call, ↓V_inv, ↓oQ_some, ↓oP_some, ↓oA_some, ↓oC_some, gO_true, gO_false, ↓gO_true, ↓gO_false, cIf_true, cIf_false, oQ_some, oP_some, oA_some, oC_some, oV_some,  reserve0, ↓D_nil, ↓D_p, ↓D_r, ↓nd_some, ↓ndr_some, ↓oV_some, ↓ev_rst, has_cons, has_nil, P_mv, P_pick, pickV_true, pickV_false, P_bin, P_un, P_cnv, cnvV_int, P_mkif, P_mkfn, P_fadr, P_fld, P_iadr, P_idx, P_len, P_mn, P_mx, foldV_two, mn2_int, mx2_int, unA_not, unA_neg, B_add, B_sub, B_mul, B_quo, B_rem, B_eql, B_neq, B_lss, B_leq, B_gtr, B_geq, R_load, wants_ev, gV_t, gV_f, ↓evPut, ↓ev_c, ↓ev_f, ↓ev_g, isC_t, isC_c, isC_f, isC_g, ↓reduceIte, Nat.reduceEqDiff, Nat.reduceBEq, Bool.or_self, Bool.or_false, Bool.or_true, Bool.false_or, Bool.true_or, Bool.and_true, Bool.and_false, Bool.true_and, Bool.false_and, Bool.not_true, Bool.not_false, Bool.false_eq_true, ofArgs, List.map_cons, List.map_nil, List.nil_append, List.append_nil, List.cons_append, Nat.reduceAdd, calleeA, beq_self_eq_true, decide_true, decide_false, h0, h1, h2, h26, h27, h28, hy, B_bne t4, binA_same, wi]
    refine ⟨k - 1, by omega, w1.alloc _, i + 1, by omega, hS'.alloc w1 _, by simp only [↓evPut, ↓ev_c, ↓reduceIte, Nat.reduceEqDiff, h0], by simp only [↓evPut, ↓ev_c, ↓reduceIte, Nat.reduceEqDiff, h1], by simp only [↓evPut, ↓ev_c, ↓reduceIte, Nat.reduceEqDiff, h2], by simp only [↓evPut, ↓ev_c, ↓reduceIte, Nat.reduceEqDiff, h26], by simp only [↓evPut, ↓ev_c, ↓reduceIte, Nat.reduceEqDiff, h27], by simp only [↓evPut, ↓ev_c, ↓reduceIte, Nat.reduceEqDiff]⟩
  · rw [cIf_no (by omega)]
    have d1 : IntKind.i64.wrap ((d : Int) + 1) = ((d + 1 : Nat) : Int) := wrapSucc (by omega)
    have d2 : IntKind.i64.wrap ((d : Int) - 1) = ((d - 1 : Nat) : Int) := by rw [wrap64_id (by omega) (by omega)]; omega
    have hV : IsSl .i32 (H'.alloc (.row (.lst ((List.replicate d 0).map (Value.int .i32))) 0 true)) (.slice (some ⟨H'.n, 0, some 3⟩) d d) (List.replicate d 0) := by
      have := IsSl.own (k := .i32) (zs := List.replicate d 0) (cap := d) (Hp.get_alloc_same H' (.row (.lst ((List.replicate d 0).map (Value.int .i32))) 0 true)) (.inr rfl) (by simp) fit_rep
      simpa using this
    have hl : (List.replicate d (0 : Int)).length < 9223372036854775807 := by simp; omega
    simp -implicitDefEqProofs only [↓D_if, gD_true, gD_false, ↓D_a, ↓D_e, ↓D_call, ↓ndc_0, Hp.get_put, Hp.get_alloc, ldR_lst, List.getElem?_map, List.length_map, List.length_set, A_mksl, E_store, omap_some, omap_none, bndV_none, ↓lp_nrm, ↓lp_exit, ↓lp_ret, ↓C_skip, ↓C_reg, ↓C_dreg, ↓C_seq, ↓C_cond, ↓C_blk, ↓C_loop, ↓C_exit, ↓C_ret, ↓sq_nrm, ↓sq_exit, ↓sq_ret, ↓outB_nrm, ↓outB_ret, ↓outB_exit, ↓fin_nrm, ↓fin_ret, ↓fin_ret0, ↓fin_nrm0, ↓fin_ret2, ↓rd_nrm, ↓rd_exit, ↓rd_ret, ↓cIf_true, ↓cIf_false, ↓VO_nil, ↓VO_go, ↓VO_if, ↓nx_some, ↓nx_none, putD_some, putD_none, ↓V_p, ↓V_r, ↓V_a, ↓V_e, ↓V_call, ↓V_inv, ↓oQ_some, ↓oP_some, ↓oA_some, ↓oC_some, gO_true, gO_false, ↓gO_true, ↓gO_false, cIf_true, cIf_false, oQ_some, oP_some, oA_some, oC_some, oV_some,  reserve0, ↓D_nil, ↓D_p, ↓D_r, ↓nd_some, ↓ndr_some, ↓oV_some, ↓ev_rst, has_cons, has_nil, P_mv, P_pick, pickV_true, pickV_false, P_bin, P_un, P_cnv, cnvV_int, P_mkif, P_mkfn, P_fadr, P_fld, P_iadr, P_idx, P_len, P_mn, P_mx, foldV_two, mn2_int, mx2_int, unA_not, unA_neg, B_add, B_sub, B_mul, B_quo, B_rem, B_eql, B_neq, B_lss, B_leq, B_gtr, B_geq, R_load, wants_ev, gV_t, gV_f, ↓evPut, ↓ev_c, ↓ev_f, ↓ev_g, isC_t, isC_c, isC_f, isC_g, ↓reduceIte, Nat.reduceEqDiff, Nat.reduceBEq, Bool.or_self, Bool.or_false, Bool.or_true, Bool.false_or, Bool.true_or, Bool.and_true, Bool.and_false, Bool.true_and, Bool.false_and, Bool.not_true, Bool.not_false, Bool.false_eq_true, ofArgs, List.map_cons, List.map_nil, List.nil_append, List.append_nil, List.cons_append, Nat.reduceAdd, calleeA, beq_self_eq_true, decide_true, decide_false, h0, h1, h2, mkV_int t38 t21 (by decide) (Int.natCast_nonneg d) (by omega : (d : Int) ≤ 512), dn]
    refine WF.ext (g := g32) rfl (g32_run hV hl d) ?_
    rw [may_zero d d (by omega) (by omega), decide_eq_true rfl]
    simp -implicitDefEqProofs only [↓D_if, gD_true, gD_false, ↓D_a, ↓D_e, ↓D_call, ↓ndc_0, Hp.get_put, Hp.get_alloc, ldR_lst, List.getElem?_map, List.length_map, List.length_set, A_mksl, E_store, omap_some, omap_none, bndV_none, ↓lp_nrm, ↓lp_exit, ↓lp_ret, ↓C_skip, ↓C_reg, ↓C_dreg, ↓C_seq, ↓C_cond, ↓C_blk, ↓C_loop, ↓C_exit, ↓C_ret, ↓sq_nrm, ↓sq_exit, ↓sq_ret, ↓outB_nrm, ↓outB_ret, ↓outB_exit, ↓fin_nrm, ↓fin_ret, ↓fin_ret0, ↓fin_nrm0, ↓fin_ret2, ↓rd_nrm, ↓rd_exit, ↓rd_ret, ↓cIf_true, ↓cIf_false, ↓VO_nil, ↓VO_go, ↓VO_if, ↓nx_some, ↓nx_none, putD_some, putD_none, ↓V_p, ↓V_r, ↓V_a, ↓V_e, ↓V_call, ↓V_inv, ↓oQ_some, ↓oP_some, ↓oA_some, ↓oC_some, gO_true, gO_false, ↓gO_true, ↓gO_false, cIf_true, cIf_false, oQ_some, oP_some, oA_some, oC_some, oV_some,  reserve0, ↓D_nil, ↓D_p, ↓D_r, ↓nd_some, ↓ndr_some, ↓oV_some, ↓ev_rst, has_cons, has_nil, P_mv, P_pick, pickV_true, pickV_false, P_bin, P_un, P_cnv, cnvV_int, P_mkif, P_mkfn, P_fadr, P_fld, P_iadr, P_idx, P_len, P_mn, P_mx, foldV_two, mn2_int, mx2_int, unA_not, unA_neg, B_add, B_sub, B_mul, B_quo, B_rem, B_eql, B_neq, B_lss, B_leq, B_gtr, B_geq, R_load, wants_ev, gV_t, gV_f, ↓evPut, ↓ev_c, ↓ev_f, ↓ev_g, isC_t, isC_c, isC_f, isC_g, ↓reduceIte, Nat.reduceEqDiff, Nat.reduceBEq, Bool.or_self, Bool.or_false, Bool.or_true, Bool.false_or, Bool.true_or, Bool.and_true, Bool.and_false, Bool.true_and, Bool.false_and, Bool.not_true, Bool.not_false, Bool.false_eq_true, ofArgs, List.map_cons, List.map_nil, List.nil_append, List.append_nil, List.cons_append, Nat.reduceAdd, calleeA, beq_self_eq_true, decide_true, decide_false, h0, h1, h2, d1, d2]
    refine WF.ext (g := g32) rfl (g32_run hV hl _) ?_
    rw [may_zero d _ (by omega) (by omega), decide_eq_false (by omega : ¬ ((d : Int) = ((d + 1 : Nat) : Int)))]
    simp -implicitDefEqProofs only [↓D_if, gD_true, gD_false, ↓D_a, ↓D_e, ↓D_call, ↓ndc_0, Hp.get_put, Hp.get_alloc, ldR_lst, List.getElem?_map, List.length_map, List.length_set, A_mksl, E_store, omap_some, omap_none, bndV_none, ↓lp_nrm, ↓lp_exit, ↓lp_ret, ↓C_skip, ↓C_reg, ↓C_dreg, ↓C_seq, ↓C_cond, ↓C_blk, ↓C_loop, ↓C_exit, ↓C_ret, ↓sq_nrm, ↓sq_exit, ↓sq_ret, ↓outB_nrm, ↓outB_ret, ↓outB_exit, ↓fin_nrm, ↓fin_ret, ↓fin_ret0, ↓fin_nrm0, ↓fin_ret2, ↓rd_nrm, ↓rd_exit, ↓rd_ret, ↓cIf_true, ↓cIf_false, ↓VO_nil, ↓VO_go, ↓VO_if, ↓nx_some, ↓nx_none, putD_some, putD_none, ↓V_p, ↓V_r, ↓V_a, ↓V_e, ↓V_call, ↓V_inv, ↓oQ_some, ↓oP_some, ↓oA_some, ↓oC_some, gO_true, gO_false, ↓gO_true, ↓gO_false, cIf_true, cIf_false, oQ_some, oP_some, oA_some, oC_some, oV_some,  reserve0, ↓D_nil, ↓D_p, ↓D_r, ↓nd_some, ↓ndr_some, ↓oV_some, ↓ev_rst, has_cons, has_nil, P_mv, P_pick, pickV_true, pickV_false, P_bin, P_un, P_cnv, cnvV_int, P_mkif, P_mkfn, P_fadr, P_fld, P_iadr, P_idx, P_len, P_mn, P_mx, foldV_two, mn2_int, mx2_int, unA_not, unA_neg, B_add, B_sub, B_mul, B_quo, B_rem, B_eql, B_neq, B_lss, B_leq, B_gtr, B_geq, R_load, wants_ev, gV_t, gV_f, ↓evPut, ↓ev_c, ↓ev_f, ↓ev_g, isC_t, isC_c, isC_f, isC_g, ↓reduceIte, Nat.reduceEqDiff, Nat.reduceBEq, Bool.or_self, Bool.or_false, Bool.or_true, Bool.false_or, Bool.true_or, Bool.and_true, Bool.and_false, Bool.true_and, Bool.false_and, Bool.not_true, Bool.not_false, Bool.false_eq_true, ofArgs, List.map_cons, List.map_nil, List.nil_append, List.append_nil, List.cons_append, Nat.reduceAdd, calleeA, beq_self_eq_true, decide_true, decide_false, h0, h1, h2, d2]
    have g3 := g32_run hV hl ((d - 1 : Nat) : Int)
    rw [may_zero d _ (by omega) (by omega), decide_eq_false (by omega : ¬ ((d : Int) = ((d - 1 : Nat) : Int)))] at g3
    refine WF.ext (g := g32) rfl g3 ?_
    skip -- : Nat) : Int)))]
    obtain ⟨v', q1, q2⟩ := slcV_sl t38 t21 hV (l := none) (h := some (.int .i64 ((d - 1 : Nat) : Int))) (lo := 0) (hi := d - 1) (fun cap hc => by
      rw [List.length_replicate] at hc
      rw [bndV_int (by omega) (by omega), Int.toNat_natCast]) (bndV_none 0 _) (Nat.zero_le _) (by rw [List.length_replicate]; exact Nat.sub_le _ _)
    simp -implicitDefEqProofs only [↓D_if, gD_true, gD_false, ↓D_a, ↓D_e, ↓D_call, ↓ndc_0, Hp.get_put, Hp.get_alloc, ldR_lst, List.getElem?_map, List.length_map, List.length_set, A_mksl, E_store, omap_some, omap_none, bndV_none, ↓lp_nrm, ↓lp_exit, ↓lp_ret, ↓C_skip, ↓C_reg, ↓C_dreg, ↓C_seq, ↓C_cond, ↓C_blk, ↓C_loop, ↓C_exit, ↓C_ret, ↓sq_nrm, ↓sq_exit, ↓sq_ret, ↓outB_nrm, ↓outB_ret, ↓outB_exit, ↓fin_nrm, ↓fin_ret, ↓fin_ret0, ↓fin_nrm0, ↓fin_ret2, ↓rd_nrm, ↓rd_exit, ↓rd_ret, ↓cIf_true, ↓cIf_false, ↓VO_nil, ↓VO_go, ↓VO_if, ↓nx_some, ↓nx_none, putD_some, putD_none, ↓V_p, ↓V_r, ↓V_a, ↓V_e, ↓V_call, ↓V_inv, ↓oQ_some, ↓oP_some, ↓oA_some, ↓oC_some, gO_true, gO_false, ↓gO_true, ↓gO_false, cIf_true, cIf_false, oQ_some, oP_some, oA_some, oC_some, oV_some,  reserve0, ↓D_nil, ↓D_p, ↓D_r, ↓nd_some, ↓ndr_some, ↓oV_some, ↓ev_rst, has_cons, has_nil, P_mv, P_pick, pickV_true, pickV_false, P_bin, P_un, P_cnv, cnvV_int, P_mkif, P_mkfn, P_fadr, P_fld, P_iadr, P_idx, P_len, P_mn, P_mx, foldV_two, mn2_int, mx2_int, unA_not, unA_neg, B_add, B_sub, B_mul, B_quo, B_rem, B_eql, B_neq, B_lss, B_leq, B_gtr, B_geq, R_load, wants_ev, gV_t, gV_f, ↓evPut, ↓ev_c, ↓ev_f, ↓ev_g, isC_t, isC_c, isC_f, isC_g, ↓reduceIte, Nat.reduceEqDiff, Nat.reduceBEq, Bool.or_self, Bool.or_false, Bool.or_true, Bool.false_or, Bool.true_or, Bool.and_true, Bool.and_false, Bool.true_and, Bool.false_and, Bool.not_true, Bool.not_false, Bool.false_eq_true, ofArgs, List.map_cons, List.map_nil, List.nil_append, List.append_nil, List.cons_append, Nat.reduceAdd, calleeA, beq_self_eq_true, decide_true, decide_false, h0, h1, h2, d2, P_slc 38 t38, q1]
    refine WF.ext (g := g32) rfl (g32_run q2 (by simp; omega) _) ?_
    have : mayL (List.drop 0 (List.take (d - 1) (List.replicate d (0 : Int)))) d = false := by
      rw [List.drop_zero, List.take_replicate, Nat.min_eq_left (by omega)]
      by_cases h : 1 ≤ d - 1
      · rw [may_zero _ _ h (by omega), decide_eq_false (by omega : ¬ (((d - 1 : Nat) : Int) = (d : Int)))]
      · have : d - 1 = 0 := by omega
        rw [this]; unfold mayL; simp; omega
    rw [this]
    simp -implicitDefEqProofs only [↓D_if, gD_true, gD_false, ↓D_a, ↓D_e, ↓D_call, ↓ndc_0, Hp.get_put, Hp.get_alloc, ldR_lst, List.getElem?_map, List.length_map, List.length_set, A_mksl, E_store, omap_some, omap_none, bndV_none, ↓lp_nrm, ↓lp_exit, ↓lp_ret, ↓C_skip, ↓C_reg, ↓C_dreg, ↓C_seq, ↓C_cond, ↓C_blk, ↓C_loop, ↓C_exit, ↓C_ret, ↓sq_nrm, ↓sq_exit, ↓sq_ret, ↓outB_nrm, ↓outB_ret, ↓outB_exit, ↓fin_nrm, ↓fin_ret, ↓fin_ret0, ↓fin_nrm0, ↓fin_ret2, ↓rd_nrm, ↓rd_exit, ↓rd_ret, ↓cIf_true, ↓cIf_false, ↓VO_nil, ↓VO_go, ↓VO_if, ↓nx_some, ↓nx_none, putD_some, putD_none, ↓V_p, ↓V_r, ↓V_a, ↓V_e, ↓V_call, ↓V_inv, ↓oQ_some, ↓oP_some, ↓oA_some, ↓oC_some, gO_true, gO_false, ↓gO_true, ↓gO_false, cIf_true, cIf_false, oQ_some, oP_some, oA_some, oC_some, oV_some,  reserve0, ↓D_nil, ↓D_p, ↓D_r, ↓nd_some, ↓ndr_some, ↓oV_some, ↓ev_rst, has_cons, has_nil, P_mv, P_pick, pickV_true, pickV_false, P_bin, P_un, P_cnv, cnvV_int, P_mkif, P_mkfn, P_fadr, P_fld, P_iadr, P_idx, P_len, P_mn, P_mx, foldV_two, mn2_int, mx2_int, unA_not, unA_neg, B_add, B_sub, B_mul, B_quo, B_rem, B_eql, B_neq, B_lss, B_leq, B_gtr, B_geq, R_load, wants_ev, gV_t, gV_f, ↓evPut, ↓ev_c, ↓ev_f, ↓ev_g, isC_t, isC_c, isC_f, isC_g, ↓reduceIte, Nat.reduceEqDiff, Nat.reduceBEq, Bool.or_self, Bool.or_false, Bool.or_true, Bool.false_or, Bool.true_or, Bool.and_true, Bool.and_false, Bool.true_and, Bool.false_and, Bool.not_true, Bool.not_false, Bool.false_eq_true, ofArgs, List.map_cons, List.map_nil, List.nil_append, List.append_nil, List.cons_append, Nat.reduceAdd, calleeA, beq_self_eq_true, decide_true, decide_false]
end Go.Proofs.YtaegmplbkbaniaaGreatDoor
